/-
  The walks of the reference for naturals: Add, minus, Sub.
-/
import Derived.Test.YtlkpphoioocjeaaRefD
namespace Go.Proofs.Ytlkpphoioocjeaa
open Go.RowKit Nm

/-- between two rounds of the loops that add or subtract digit by digit -/
structure linI (s : Int) (X Y o : List Int) (k : Nat) : Prop where
  len : o.length = k
  sum : vle o = vle (X.take k) + s * vle (Y.take k)
  rng : ∀ x ∈ o, -510 ≤ x ∧ x ≤ 510
theorem linI.zero (s : Int) (X Y : List Int) : linI s X Y [] 0 := ⟨rfl, by simp [vle], by simp⟩
theorem linI.step {s : Int} {X Y o : List Int} {k : Nat} (h : linI s X Y o k) (z : Int) (hz : z = X.getD k 0 + s * Y.getD k 0) (hr : -510 ≤ z ∧ z ≤ 510) : linI s X Y (o ++ [z]) (k + 1) := by
  refine ⟨by simp [h.len], ?_, ?_⟩
  · rw [vle_snoc, h.len, h.sum, vle_take X, vle_take Y, hz, Int.mul_add, Int.mul_add, ← Int.mul_assoc, ← Int.mul_assoc, Int.mul_comm s (256 ^ k)]
    omega
  · intro x hx
    rw [List.mem_append] at hx
    rcases hx with hx | hx
    · exact h.rng x hx
    · simp at hx; subst hx; exact hr
theorem linI.done {s : Int} {X Y o : List Int} {k : Nat} (h : linI s X Y o k) (hX : X.length ≤ k) (hY : Y.length ≤ k) : vle o = vle X + s * vle Y := by
  rw [h.sum, List.take_of_length_le hX, List.take_of_length_le hY]
theorem vle_dgi_nv (a : ByteArray) : vle (dgi a.data.toList) = ((nv a : Nat) : Int) := vle_dgi _
theorem dgi_len (a : ByteArray) : (dgi a.data.toList).length = a.size := by rw [length_dgi, sdata_length]

set_option maxHeartbeats 1000000 in
/-- number(carry(l)) -/
theorem numcarry (B : Nat) (v : Value) (xs : List Int) (w : World) (N : Nat) (hown : OwnZ w B v xs) (he : ∀ x ∈ xs, -8589934592 ≤ x ∧ x ≤ 8589934592) (hv : vle xs = (N : Int)) (hl : xs.length ≤ 65530) :
    Calls Try.prog 47 #[v] w fun e w' => ∃ v', e = .returned v' ∧ Below w.heap.size w w' ∧
      Calls Try.prog 46 #[v'] w' fun e w'' => e = .returned (.string (encS N)) ∧ Below w.heap.size w w'' := by
  refine (carry_any B v xs w hown he (by omega) (by omega)).mono ?_
  rintro e w' ⟨v', out, rfl, ho, hs, hr, hlen, hb⟩
  refine ⟨v', rfl, hb, ?_⟩
  refine (number_any _ v' out w' ho hr (by omega)).mono ?_
  rintro e w'' ⟨rfl, hb2⟩
  refine ⟨?_, hb.trans (hb2.mono hb.size)⟩
  rw [hs, hv]
  rfl

set_option maxHeartbeats 4000000 in
theorem rAdd_any (a b : ByteArray) (w : World) :
    Calls Try.prog 21 #[.string a, .string b] w fun e w' => e = .returned (.tuple #[.string (addF a b).1, .int .i64 (addF a b).2]) ∧ Below w.heap.size w w' := by
  have h_ := fun w => both_any a b w
  by_cases h : chkN [a, b] = 0
  · have E : Hid (addF a b = shortN (nv a + nv b)) := Lib.hid (if_pos h)
    obtain ⟨_, _, s1, s2⟩ := chk2_zero h
    rw [h] at h_
    have HB := Lib.hid h_
    have lx := dgi_len a
    have ly := dgi_len b
    have vx := vle_dgi_nv a
    have vy := vle_dgi_nv b
    have da := fun w => digits_any a w (by omega)
    have db := fun w => digits_any b w (by omega)
    have rx := dgi_range a.data.toList
    have ry := dgi_range b.data.toList
    generalize dgi a.data.toList = X at *
    generalize dgi b.data.toList = Y at *
    have DA := Lib.hid da
    have DB := Lib.hid db
    have VX := Lib.hid vx
    have VY := Lib.hid vy
    have RX := Lib.hid rx
    have RY := Lib.hid ry
    rw [← lx] at s1
    rw [← ly] at s2
    clear lx ly da db vx vy rx ry
    clear h_ h
    go_enter Try.func21, Try.ntmps21
    go_wp2_with fail
    refine (HB.out _).mono ?_
    rintro e w1 ⟨rfl, rfl⟩
    go_wp2_with fail
    refine (DA.out _).mono ?_
    rintro e w2 ⟨v, rfl, hv, hb2⟩
    go_wp2_with fail
    refine (DB.out _).mono ?_
    rintro e w3 ⟨u, rfl, hu, hb3⟩
    have hbl3 := hb2.trans (hb3.mono hb2.size)
    obtain ⟨oa, cap, rfl, hcap, hcm⟩ := hv.shp
    obtain ⟨ob, cap', rfl, hcap', hcm'⟩ := hu.shp
    have HV := Lib.hid (hv.below hb3)
    have HU := Lib.hid hu
    have HB3 := Lib.hid hbl3
    clear hv hu hb2 hb3 hbl3
    go_wp2_with fail
    go_loopw [9, 10] (fun l i wr => ∃ (k : Nat) (o : List Int), k ≤ max X.length Y.length ∧ i = .int .i64 (k : Int) ∧ linI 1 X Y o k ∧ OwnZ wr w3.heap.size l o ∧ Below w3.heap.size w3 wr) (fun _ i _ => max X.length Y.length - (intOf i).toNat)
    case atStart => exact ⟨0, [], by omega, rfl, linI.zero _ _ _, OwnZ.lit0 w3, (Below.refl _ _).alloc (Nat.le_refl _) _⟩
    case round =>
      obtain ⟨k, o, hk, rfl, hL, hown, hbl⟩ := hrel
      have hol := hL.len
      have HL := Lib.hid hL
      clear hL
      obtain ⟨ol, cl, hlv, hcl, hclm⟩ := hown.shp
      subst hlv
      by_cases hm : X.length < Y.length
      · skip
        by_cases h0 : k < Y.length
        · skip
          have hxr := getD_range RX.out (by omega) (by omega) k
          have hyr := getD_range RY.out (by omega) (by omega) k
          have ax := fun ww (h : OwnZ ww w.heap.size (.slice oa X.length cap) X) => at_any _ _ X k ww h (by omega)
          have ay := fun ww (h : OwnZ ww w2.heap.size (.slice ob Y.length cap') Y) => at_any _ _ Y k ww h (by omega)
          generalize hx : X.getD k 0 = x at *
          generalize hy : Y.getD k 0 = y at *
          have AX := Lib.hid (ax wr (HV.out.below hbl))
          have AY := Lib.hid (ay wr (HU.out.below hbl))
          have HST := Lib.hid (HL.out.step (x + y) (by rw [hx, hy]; omega) (by omega))
          obtain ⟨x1, x2⟩ := hxr
          obtain ⟨y1, y2⟩ := hyr
          have hol2 : o.length + 1 ≤ 4294967296 := by omega
          clear ax ay hx hy hol
          go_wp2_with fail
          refine AX.out.mono ?_
          rintro e w4 ⟨rfl, rfl⟩
          go_wp2_with fail
          refine AY.out.mono ?_
          rintro e w4 ⟨rfl, rfl⟩
          go_wp2_with (at_builtin; refine append1I wr rfl _ _ 52 rfl w3.heap.size 3 .i64 8 info_i64 Try.underlying52 _ o hown rfl _ _ _ rfl rfl hol2 (by omega) hbl.size ?_)
          intro l' w4 hown' hgrow
          have hbl2 := grown_belowI hbl hown hgrow hbl.size
          clear hgrow hown hbl
          go_wp2_with fail
          go_roundw
          case rel => exact ⟨k + 1, _, by omega, by go_num, HST.out, hown', hbl2⟩
          case measure => simp [intOf]; omega
        · have hsum : vle o = ((nv a + nv b : Nat) : Int) := by
            rw [HL.out.done (by omega) (by omega), VX.out, VY.out]
            omega
          have hnc := numcarry _ _ o wr (nv a + nv b) hown (fun x hx => by have := HL.out.rng x hx; omega) hsum (by omega)
          have HNC := Lib.hid hnc
          clear hnc hsum hol
          go_wp2_with fail
          refine HNC.out.mono ?_
          rintro e w5 ⟨v', rfl, hb5, hn⟩
          have HN := Lib.hid hn
          clear hn
          go_wp2_with fail
          refine HN.out.mono ?_
          rintro e w6 ⟨rfl, hb6⟩
          go_wp2_with fail
          refine (rshort_any _ _).mono ?_
          rintro e w7 ⟨rfl, rfl⟩
          go_wp2_with fail
          go_ret2
          have hbw : Below w.heap.size w wr := HB3.out.trans (hbl.mono HB3.out.size)
          exact ⟨by rw [E.out]; rfl, hbw.trans (hb6.mono hbw.size)⟩
      · replace hm : Y.length ≤ X.length := by omega
        by_cases h0 : k < X.length
        · skip
          have hxr := getD_range RX.out (by omega) (by omega) k
          have hyr := getD_range RY.out (by omega) (by omega) k
          have ax := fun ww (h : OwnZ ww w.heap.size (.slice oa X.length cap) X) => at_any _ _ X k ww h (by omega)
          have ay := fun ww (h : OwnZ ww w2.heap.size (.slice ob Y.length cap') Y) => at_any _ _ Y k ww h (by omega)
          generalize hx : X.getD k 0 = x at *
          generalize hy : Y.getD k 0 = y at *
          have AX := Lib.hid (ax wr (HV.out.below hbl))
          have AY := Lib.hid (ay wr (HU.out.below hbl))
          have HST := Lib.hid (HL.out.step (x + y) (by rw [hx, hy]; omega) (by omega))
          obtain ⟨x1, x2⟩ := hxr
          obtain ⟨y1, y2⟩ := hyr
          have hol2 : o.length + 1 ≤ 4294967296 := by omega
          clear ax ay hx hy hol
          go_wp2_with fail
          refine AX.out.mono ?_
          rintro e w4 ⟨rfl, rfl⟩
          go_wp2_with fail
          refine AY.out.mono ?_
          rintro e w4 ⟨rfl, rfl⟩
          go_wp2_with (at_builtin; refine append1I wr rfl _ _ 52 rfl w3.heap.size 3 .i64 8 info_i64 Try.underlying52 _ o hown rfl _ _ _ rfl rfl hol2 (by omega) hbl.size ?_)
          intro l' w4 hown' hgrow
          have hbl2 := grown_belowI hbl hown hgrow hbl.size
          clear hgrow hown hbl
          go_wp2_with fail
          go_roundw
          case rel => exact ⟨k + 1, _, by omega, by go_num, HST.out, hown', hbl2⟩
          case measure => simp [intOf]; omega
        · have hsum : vle o = ((nv a + nv b : Nat) : Int) := by
            rw [HL.out.done (by omega) (by omega), VX.out, VY.out]
            omega
          have hnc := numcarry _ _ o wr (nv a + nv b) hown (fun x hx => by have := HL.out.rng x hx; omega) hsum (by omega)
          have HNC := Lib.hid hnc
          clear hnc hsum hol
          go_wp2_with fail
          refine HNC.out.mono ?_
          rintro e w5 ⟨v', rfl, hb5, hn⟩
          have HN := Lib.hid hn
          clear hn
          go_wp2_with fail
          refine HN.out.mono ?_
          rintro e w6 ⟨rfl, hb6⟩
          go_wp2_with fail
          refine (rshort_any _ _).mono ?_
          rintro e w7 ⟨rfl, rfl⟩
          go_wp2_with fail
          go_ret2
          have hbw : Below w.heap.size w wr := HB3.out.trans (hbl.mono HB3.out.size)
          exact ⟨by rw [E.out]; rfl, hbw.trans (hb6.mono hbw.size)⟩
  · have E : Hid (addF a b = (bE, chkN [a, b])) := Lib.hid (if_neg h)
    have HB := Lib.hid h_
    have h2 : (chkN [a, b] != 0) = true := by simpa using h
    clear h_ h
    go_enter Try.func21, Try.ntmps21
    go_wp2_with fail
    refine (HB.out _).mono ?_
    rintro e w1 ⟨rfl, rfl⟩
    go_wp2_with fail
    go_ret2
    exact ⟨by rw [E.out]; rfl, Below.refl _ _⟩

set_option maxHeartbeats 4000000 in
theorem minus_any (a b : ByteArray) (w : World) (s1 : a.size ≤ 4096) (s2 : b.size ≤ a.size) (hle : nv b ≤ nv a) :
    Calls Try.prog 49 #[.string a, .string b] w fun e w' => e = .returned (.string (encS (nv a - nv b))) ∧ Below w.heap.size w w' := by
  have lx := dgi_len a
  have ly := dgi_len b
  have vx := vle_dgi_nv a
  have vy := vle_dgi_nv b
  have da := fun w => digits_any a w (by omega)
  have db := fun w => digits_any b w (by omega)
  have rx := dgi_range a.data.toList
  have ry := dgi_range b.data.toList
  generalize dgi a.data.toList = X at *
  generalize dgi b.data.toList = Y at *
  have DA := Lib.hid da
  have DB := Lib.hid db
  have VX := Lib.hid vx
  have VY := Lib.hid vy
  have RX := Lib.hid rx
  have RY := Lib.hid ry
  rw [← lx] at s1 s2
  rw [← ly] at s2
  clear lx ly da db vx vy rx ry
  go_enter Try.func49, Try.ntmps49
  go_wp2_with fail
  refine (DA.out _).mono ?_
  rintro e w2 ⟨v, rfl, hv, hb2⟩
  go_wp2_with fail
  refine (DB.out _).mono ?_
  rintro e w3 ⟨u, rfl, hu, hb3⟩
  have hbl3 := hb2.trans (hb3.mono hb2.size)
  obtain ⟨oa, cap, rfl, hcap, hcm⟩ := hv.shp
  obtain ⟨ob, cap', rfl, hcap', hcm'⟩ := hu.shp
  have HV := Lib.hid (hv.below hb3)
  have HU := Lib.hid hu
  have HB3 := Lib.hid hbl3
  clear hv hu hb2 hb3 hbl3
  go_wp2_with fail
  go_loopw [7, 8] (fun l i wr => ∃ (k : Nat) (o : List Int), k ≤ X.length ∧ i = .int .i64 (k : Int) ∧ linI (-1) X Y o k ∧ OwnZ wr w3.heap.size l o ∧ Below w3.heap.size w3 wr) (fun _ i _ => X.length - (intOf i).toNat)
  case atStart => exact ⟨0, [], by omega, rfl, linI.zero _ _ _, OwnZ.lit0 w3, (Below.refl _ _).alloc (Nat.le_refl _) _⟩
  case round =>
    obtain ⟨k, o, hk, rfl, hL, hown, hbl⟩ := hrel
    have hol := hL.len
    have HL := Lib.hid hL
    clear hL
    obtain ⟨ol, cl, hlv, hcl, hclm⟩ := hown.shp
    subst hlv
    by_cases h0 : k < X.length
    · skip
      have hxr := getD_range RX.out (by omega) (by omega) k
      have hyr := getD_range RY.out (by omega) (by omega) k
      have ax := fun ww (h : OwnZ ww w.heap.size (.slice oa X.length cap) X) => at_any _ _ X k ww h (by omega)
      have ay := fun ww (h : OwnZ ww w2.heap.size (.slice ob Y.length cap') Y) => at_any _ _ Y k ww h (by omega)
      generalize hx : X.getD k 0 = x at *
      generalize hy : Y.getD k 0 = y at *
      have AX := Lib.hid (ax wr (HV.out.below hbl))
      have AY := Lib.hid (ay wr (HU.out.below hbl))
      have HST := Lib.hid (HL.out.step (x - y) (by rw [hx, hy]; omega) (by omega))
      obtain ⟨x1, x2⟩ := hxr
      obtain ⟨y1, y2⟩ := hyr
      have hol2 : o.length + 1 ≤ 4294967296 := by omega
      clear ax ay hx hy hol
      go_wp2_with fail
      refine AX.out.mono ?_
      rintro e w4 ⟨rfl, rfl⟩
      go_wp2_with fail
      refine AY.out.mono ?_
      rintro e w4 ⟨rfl, rfl⟩
      go_wp2_with (at_builtin; refine append1I wr rfl _ _ 52 rfl w3.heap.size 3 .i64 8 info_i64 Try.underlying52 _ o hown rfl _ _ _ rfl rfl hol2 (by omega) hbl.size ?_)
      intro l' w4 hown' hgrow
      have hbl2 := grown_belowI hbl hown hgrow hbl.size
      clear hgrow hown hbl
      go_wp2_with fail
      go_roundw
      case rel => exact ⟨k + 1, _, by omega, by go_num, HST.out, hown', hbl2⟩
      case measure => simp [intOf]; omega
    · have hsum : vle o = ((nv a - nv b : Nat) : Int) := by
        rw [HL.out.done (by omega) (by omega), VX.out, VY.out]
        omega
      have hnc := numcarry _ _ o wr (nv a - nv b) hown (fun x hx => by have := HL.out.rng x hx; omega) hsum (by omega)
      have HNC := Lib.hid hnc
      clear hnc hsum hol
      go_wp2_with fail
      refine HNC.out.mono ?_
      rintro e w5 ⟨v', rfl, hb5, hn⟩
      have HN := Lib.hid hn
      clear hn
      go_wp2_with fail
      refine HN.out.mono ?_
      rintro e w6 ⟨rfl, hb6⟩
      go_wp2_with fail
      go_ret
      have hbw : Below w.heap.size w wr := HB3.out.trans (hbl.mono HB3.out.size)
      exact ⟨rfl, hbw.trans (hb6.mono hbw.size)⟩

theorem size_le_of {a b : ByteArray} (h1 : isN a = true) (h2 : isN b = true) (h : nv b ≤ nv a) : b.size ≤ a.size := by
  apply Decidable.byContradiction
  intro hc
  have := nv_lt_of_size h2 (show a.size < b.size by omega)
  omega
set_option maxHeartbeats 1000000 in
theorem rSub_any (a b : ByteArray) (w : World) :
    Calls Try.prog 23 #[.string a, .string b] w fun e w' => e = .returned (.tuple #[.string (subF a b).1, .int .i64 (subF a b).2]) ∧ Below w.heap.size w w' := by
  have h_ := fun w => both_any a b w
  by_cases h : chkN [a, b] = 0
  · obtain ⟨n1, n2, s1, s2⟩ := chk2_zero h
    rw [h] at h_
    have HB := Lib.hid h_
    have l1 := fun w => less_ref a b w n1 n2 (by unfold maxLen; omega) (by unfold maxLen; omega)
    by_cases hlt : nv a < nv b
    · have E : Hid (subF a b = (bE, 1)) := Lib.hid (by rw [subF, if_pos h, if_pos hlt])
      rw [decide_eq_true hlt] at l1
      have HL := Lib.hid l1
      clear h_ h l1 hlt
      go_enter Try.func23, Try.ntmps23
      go_wp2_with fail
      refine (HB.out _).mono ?_
      rintro e w1 ⟨rfl, rfl⟩
      go_wp2_with fail
      refine (HL.out _).mono ?_
      rintro e w2 ⟨rfl, k, rfl⟩
      go_wp2_with fail
      go_ret2
      exact ⟨by rw [E.out]; rfl, below_drewN (Below.refl _ _) k⟩
    · have E : Hid (subF a b = (encS (nv a - nv b), 0)) := Lib.hid (by rw [subF, if_pos h, if_neg hlt])
      have HM := Lib.hid (fun w => minus_any a b w (by omega) (size_le_of n1 n2 (by omega)) (by omega))
      rw [decide_eq_false hlt] at l1
      have HL := Lib.hid l1
      clear h_ h l1 hlt
      go_enter Try.func23, Try.ntmps23
      go_wp2_with fail
      refine (HB.out _).mono ?_
      rintro e w1 ⟨rfl, rfl⟩
      go_wp2_with fail
      refine (HL.out _).mono ?_
      rintro e w2 ⟨rfl, k, rfl⟩
      go_wp2_with fail
      refine (HM.out _).mono ?_
      rintro e w3 ⟨rfl, hb3⟩
      go_wp2_with fail
      go_ret2
      exact ⟨by rw [E.out]; rfl, (below_drewN (Below.refl _ _) k).trans hb3⟩
  · have E : Hid (subF a b = (bE, chkN [a, b])) := Lib.hid (if_neg h)
    have HB := Lib.hid h_
    have h2 : (chkN [a, b] != 0) = true := by simpa using h
    clear h_ h
    go_enter Try.func23, Try.ntmps23
    go_wp2_with fail
    refine (HB.out _).mono ?_
    rintro e w1 ⟨rfl, rfl⟩
    go_wp2_with fail
    go_ret2
    exact ⟨by rw [E.out]; rfl, Below.refl _ _⟩

end Go.Proofs.Ytlkpphoioocjeaa
