/-
  The walks of the reference for naturals: Mul.
-/
import Derived.Test.YtlkpphoioocjeaaRefE
namespace Go.Proofs.Ytlkpphoioocjeaa
open Go.RowKit Nm

/-- between two rounds of the loops of 'Mul' -/
structure mulI (X Y o : List Int) (i j : Nat) (x : Int) : Prop where
  len : o.length = X.length + Y.length
  sum : vle o = vle (X.take i) * vle Y + 256 ^ i * (x * vle (Y.take j))
  rng : ∀ z ∈ o, 0 ≤ z ∧ z ≤ (256 * i + j) * 65025
theorem mulI.zero (X Y : List Int) : mulI X Y (List.replicate (X.length + Y.length) 0) 0 0 0 := by
  refine ⟨by simp, by rw [vle_replicate]; simp [vle], ?_⟩
  intro z hz
  rw [List.mem_replicate] at hz
  omega
theorem mulI.set {X Y o : List Int} {i j : Nat} {x y l : Int} (h : mulI X Y o i j x) (hj : j < Y.length) (hi : i + j < o.length) (hy : Y[j] = y) (hl : o[i + j] = l)
    (hr : 0 ≤ x * y ∧ x * y ≤ 65025) : mulI X Y (o.set (i + j) (l + x * y)) i (j + 1) x := by
  refine ⟨by rw [List.length_set]; exact h.len, ?_, ?_⟩
  · rw [vle_set o (i + j) _ hi, hl, h.sum, vle_take Y j, show Y.getD j 0 = y by simp [List.getD, hj, hy]]
    rw [show l + x * y - l = x * y by omega, Int.pow_add, Int.mul_add x, Int.mul_add (256 ^ i), Int.add_assoc]
    congr 2
    rw [Int.mul_assoc, Int.mul_left_comm (256 ^ j)]
  · intro z hz
    have h0 := h.rng l (by rw [← hl]; exact List.getElem_mem hi)
    rcases List.mem_or_eq_of_mem_set hz with hz | hz
    · have := h.rng z hz
      omega
    · omega
theorem mulI.next {X Y o : List Int} {i : Nat} {x : Int} (h : mulI X Y o i Y.length x) (hi : i < X.length) (hx : X[i] = x) (hY : Y.length ≤ 256) : mulI X Y o (i + 1) 0 0 := by
  refine ⟨h.len, ?_, ?_⟩
  · rw [h.sum, List.take_length, vle_take X i, show X.getD i 0 = x by simp [List.getD, hi, hx], Int.add_mul]
    simp [vle, Int.mul_assoc]
  · intro z hz
    have := h.rng z hz
    omega
theorem mulI.begin {X Y o : List Int} {i : Nat} {x : Int} (h : mulI X Y o i 0 0) : mulI X Y o i 0 x := by
  refine ⟨h.len, ?_, h.rng⟩
  rw [h.sum]
  simp [vle]
theorem mulI.done {X Y o : List Int} {i : Nat} (h : mulI X Y o i 0 0) (hi : X.length ≤ i) : vle o = vle X * vle Y := by
  rw [h.sum, List.take_of_length_le hi]
  simp
theorem mul_small {x y : Int} (hx : 0 ≤ x ∧ x < 256) (hy : 0 ≤ y ∧ y < 256) : 0 ≤ x * y ∧ x * y ≤ 65025 := by
  refine ⟨Int.mul_nonneg hx.1 hy.1, ?_⟩
  have h1 : x * y ≤ 255 * y := Int.mul_le_mul_of_nonneg_right (by omega) hy.1
  omega

set_option maxHeartbeats 4000000 in
theorem rMul_any (a b : ByteArray) (w : World) :
    Calls Try.prog 25 #[.string a, .string b] w fun e w' => e = .returned (.tuple #[.string (mulF a b).1, .int .i64 (mulF a b).2]) ∧ Below w.heap.size w w' := by
  have h_ := fun w => both_any a b w
  by_cases h : chkN [a, b] = 0
  · have E : Hid (mulF a b = shortN (nv a * nv b)) := Lib.hid (if_pos h)
    obtain ⟨_, _, s1, s2⟩ := chk2_zero h
    rw [h] at h_
    have HB := Lib.hid h_
    have lx := dgi_len a
    have ly := dgi_len b
    have vx := vle_dgi_nv a
    have vy := vle_dgi_nv b
    have da := fun w => digits_any a w (by omega)
    have db := fun w => digits_any b w (by omega)
    have rx := dgi_range a.data.toList
    have ry := dgi_range b.data.toList
    generalize dgi a.data.toList = X at *
    generalize dgi b.data.toList = Y at *
    have DA := Lib.hid da
    have DB := Lib.hid db
    have VX := Lib.hid vx
    have VY := Lib.hid vy
    have RX := Lib.hid rx
    have RY := Lib.hid ry
    rw [← lx] at s1
    rw [← ly] at s2
    clear lx ly da db vx vy rx ry h_ h
    obtain ⟨i0, hi, hz0, hz1, hz2⟩ := info_parts info_i64
    go_enter Try.func25, Try.ntmps25
    go_wp2_with fail
    refine (HB.out _).mono ?_
    rintro e w1 ⟨rfl, rfl⟩
    go_wp2_with fail
    refine (DA.out _).mono ?_
    rintro e w2 ⟨v, rfl, hv, hb2⟩
    go_wp2_with fail
    refine (DB.out _).mono ?_
    rintro e w3 ⟨u, rfl, hu, hb3⟩
    have hbl3 := hb2.trans (hb3.mono hb2.size)
    obtain ⟨oa, cap, rfl, hcap, hcm⟩ := hv.shp
    obtain ⟨ob, cap', rfl, hcap', hcm'⟩ := hu.shp
    have HV := Lib.hid (hv.below hb3)
    have HU := Lib.hid hu
    have HB3 := Lib.hid hbl3
    clear hv hu hb2 hb3 hbl3
    go_wp2_with (at_make; refine wpList_make_full _ rfl _ _ 52 rfl w3.heap.size 3 i0 (.int .i64 0) 1 Try.underlying52 hi hz0 hz1 .i64 .i64 _ _ (X.length + Y.length) rfl rfl (by omega) (by omega) (by rw [hz2]; omega) (by unfold maxLen; omega) (Nat.le_refl _) ?_)
    intro w4 hown hgrow
    have hown4 := OwnI.made hown
    have hbl4 := below_grown (B := w3.heap.size) hgrow (Nat.le_refl _) (by simp)
    have HO4 := Lib.hid hown4
    have HB4 := Lib.hid hbl4
    clear hown hgrow hown4 hbl4 hi hz0 hz1 hz2
    go_wp2_with fail
    go_loopw [10] (fun i wr => ∃ (k : Nat) (o : List Int), k ≤ X.length ∧ i = .int .i64 k ∧ mulI X Y o k 0 0 ∧ OwnZ wr w3.heap.size (.slice (some ⟨w3.heap.size, 0, none⟩) (X.length + Y.length) (X.length + Y.length)) o ∧ Below w3.heap.size w3 wr) (fun i _ => X.length - (intOf i).toNat)
    case atStart => exact ⟨0, _, Nat.zero_le _, rfl, mulI.zero X Y, HO4.out, HB4.out⟩
    case round =>
      obtain ⟨i, o, hi, rfl, hM, hown, hbl⟩ := hrel
      have HM := Lib.hid hM
      have HO := Lib.hid hown
      clear hM hown
      by_cases hlt : i < X.length
      · obtain ⟨g, rfl, hg1, hg2⟩ := OwnI.at HV.out (by omega)
        have hxr := RX.out _ (List.getElem_mem hlt)
        have hcx := (OwnI.below HV.out hbl).cell i hlt
        generalize hgx : X[i] = x at *
        have HGX := Lib.hid hgx
        have HXR := Lib.hid hxr
        clear hgx hcx hxr
        obtain ⟨wo, rfl⟩ : ∃ wo, wo = wr := ⟨_, rfl⟩
        go_wp2_with fail
        go_loopw [11] (fun j wr => ∃ (k : Nat) (o : List Int), k ≤ Y.length ∧ j = .int .i64 k ∧ mulI X Y o i k x ∧ OwnZ wr w3.heap.size (.slice (some ⟨w3.heap.size, 0, none⟩) (X.length + Y.length) (X.length + Y.length)) o ∧ Below w3.heap.size w3 wr) (fun j _ => Y.length - (intOf j).toNat)
        case atStart => exact ⟨0, o, Nat.zero_le _, rfl, HM.out.begin, HO.out, hbl⟩
        case round =>
          clear hbl
          obtain ⟨j, o', hj, rfl, hM', hown', hbl'⟩ := hrel
          have HM' := Lib.hid hM'
          clear hM'
          by_cases hltj : j < Y.length
          · obtain ⟨g', rfl, hg3, hg4⟩ := OwnI.at HU.out (by omega)
            have hyr := RY.out _ (List.getElem_mem hltj)
            have hcx := (OwnI.below HV.out hbl').cell i hlt
            rw [HGX.out] at hcx
            have hcy := (OwnI.below HU.out hbl').cell j hltj
            generalize hgy : Y[j] = y at *
            have HGY := Lib.hid hgy
            clear hgy
            have hij : i + j < o'.length := by rw [HM'.out.len]; omega
            have hcl := hown'.cell (i + j) hij
            have hfl := hown'.frozen (i + j)
            have hls := HM'.out.rng o'[i + j] (List.getElem_mem _)
            generalize hgl : o'[i + j] = l at *
            have HGL := Lib.hid hgl
            clear hgl
            obtain ⟨xy1, xy2⟩ := mul_small HXR.out hyr
            obtain ⟨l1, l2⟩ := hls
            have l3 : l ≤ 8589934592 := by omega
            clear l2 hyr
            have HST := Lib.hid (hown'.stored (i + j) (l + x * y))
            go_wp2_with fail
            go_region
            go_wp2_with fail
            go_roundw
            case rel => exact ⟨j + 1, _, by omega, by go_num, HM'.out.set hltj hij HGY.out HGL.out ⟨xy1, xy2⟩, (HST.out.1).drew, (hbl'.setCell (p := ⟨w3.heap.size, i + j, none⟩) (Nat.le_refl _) _).drew⟩
            case measure => simp [intOf]; omega
          · obtain rfl : j = Y.length := by omega
            go_wp2_with fail
            go_roundw
            case rel => exact ⟨i + 1, o', by omega, by go_num, HM'.out.next hlt HGX.out s2, hown', hbl'⟩
            case measure => simp [intOf]; omega
      · have hsum : vle o = ((nv a * nv b : Nat) : Int) := by
          rw [HM.out.done (by omega), VX.out, VY.out, Int.natCast_mul]
        have hnc := numcarry _ _ o wr (nv a * nv b) HO.out (fun x hx => by have := HM.out.rng x hx; omega) hsum (by rw [HM.out.len]; omega)
        have HNC := Lib.hid hnc
        clear hnc hsum
        go_wp2_with fail
        refine HNC.out.mono ?_
        rintro e w5 ⟨v', rfl, hb5, hn⟩
        have HN := Lib.hid hn
        clear hn
        go_wp2_with fail
        refine HN.out.mono ?_
        rintro e w6 ⟨rfl, hb6⟩
        go_wp2_with fail
        refine (rshort_any _ _).mono ?_
        rintro e w7 ⟨rfl, rfl⟩
        go_wp2_with fail
        go_ret2
        have hbw : Below w.heap.size w wr := HB3.out.trans (hbl.mono HB3.out.size)
        exact ⟨by rw [E.out]; rfl, hbw.trans (hb6.mono hbw.size)⟩
  · have E : Hid (mulF a b = (bE, chkN [a, b])) := Lib.hid (if_neg h)
    have HB := Lib.hid h_
    have h2 : (chkN [a, b] != 0) = true := by simpa using h
    clear h_ h
    go_enter Try.func25, Try.ntmps25
    go_wp2_with fail
    refine (HB.out _).mono ?_
    rintro e w1 ⟨rfl, rfl⟩
    go_wp2_with fail
    go_ret2
    exact ⟨by rw [E.out]; rfl, Below.refl _ _⟩

end Go.Proofs.Ytlkpphoioocjeaa
