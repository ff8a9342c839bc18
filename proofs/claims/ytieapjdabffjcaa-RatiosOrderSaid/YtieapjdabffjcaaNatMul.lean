/-
  The walks of package naturals: Mul.
-/
import Derived.Test.YtieapjdabffjcaaNatApi
namespace Go.Proofs.Ytieapjdabffjcaa
open Go.RowKit Nm

/-- between two rounds of the outer loop -/
def mulOut (w : World) (B : Nat) (X Y : List Nat) (g n i : Nat) (wr : World) : Prop :=
  ∃ L : List Nat, L.length = n ∧ small L ∧ dv L = dv (X.take i) * dv Y ∧ OwnU wr B (.slice (some ⟨g, 0, none⟩) n n) L ∧ Below B w wr
/-- between two rounds of the inner loop -/
def mulIn (w : World) (B : Nat) (X Y : List Nat) (g n i x j : Nat) (ov : Value) (wr : World) : Prop :=
  ∃ (o : Nat) (L : List Nat), o < B32 ∧ ov = .int .u64 (o : Int) ∧ L.length = n ∧ small L ∧ dv L + o * B32 ^ (i + j) = dv (X.take i) * dv Y + x * B32 ^ i * dv (Y.take j) ∧ OwnU wr B (.slice (some ⟨g, 0, none⟩) n n) L ∧ Below B w wr

theorem mul_rel {w wr : World} {B g n i x j o y l : Nat} {X Y L : List Nat} {z zo : Int} (hL : L.length = n) (hs : small L) (hp : i + j < n) (hj : j < Y.length) (ho : o < B32) (hx : x < B32) (hyb : y < B32) (hlb : l < B32)
    (hI : dv L + o * B32 ^ (i + j) = dv (X.take i) * dv Y + x * B32 ^ i * dv (Y.take j)) (hown : OwnU wr B (.slice (some ⟨g, 0, none⟩) n n) L) (hbl : Below B w wr) (hBg : B ≤ g)
    (hy : Y[j] = y) (hl : L[i + j]'(by omega) = l) (hz : z = (((o + (l + x * y)) % B32 : Nat) : Int)) (hzo : zo = (((o + (l + x * y)) / B32 : Nat) : Int)) :
    mulIn w B X Y g n i x (j + 1) (.int .u64 zo) (wr.setCell ⟨g, i + j, none⟩ (.int .u64 z)) := by
  subst hz hzo
  have hB : 0 < B32 := by unfold B32; omega
  refine ⟨(o + (l + x * y)) / B32, L.set (i + j) ((o + (l + x * y)) % B32), ?_, rfl, by simpa using hL, small_set hs (Nat.mod_lt _ hB), ?_, (OwnN.stored hown (i + j) _).1, hbl.setCell (p := ⟨g, i + j, none⟩) hBg _⟩
  · rw [Nat.div_lt_iff_lt_mul hB]
    have h1 : x * y ≤ (B32 - 1) * (B32 - 1) := Nat.mul_le_mul (by omega) (by omega)
    have h2 : (B32 - 1) * (B32 - 1) + 2 * (B32 - 1) < B32 * B32 := by unfold B32; omega
    omega
  · have h := mul_step L Y (dv (X.take i) * dv Y) i j x o (by omega) hj hI
    rw [hy, hl] at h
    exact h

set_option maxHeartbeats 1000000 in
theorem Mul_any (a b : ByteArray) (w : World) (ha : a.size ≤ maxLen) (hb : b.size ≤ maxLen) :
    Calls Try.prog 80 #[.string a, .string b] w fun e w' => e = .returned (.tuple #[.string (mulF a b).1, .int .i64 (mulF a b).2]) ∧ Below w.heap.size w w' := by
  go_enter Try.func80, Try.ntmps80
  go_wp2_with fail
  refine (check2 a b w ha hb).mono ?_
  rintro e w' ⟨rfl, rfl⟩
  have hbl : Below w.heap.size w (w.alloc (.cells #[.string a, .string b] 9)) := (Below.refl _ _).alloc (Nat.le_refl _) _
  generalize w.alloc (.cells #[.string a, .string b] 9) = w1 at *
  by_cases h : chkN [a, b] = 0
  · have E : Hid (mulF a b = shortN (nv a * nv b)) := if_pos h
    obtain ⟨n1, n2, s1, s2⟩ := chk2_zero h
    rw [h]
    clear h ha hb
    have l1 := digs_of_size s1
    have l2 := digs_of_size s2
    obtain ⟨i0, hi, hz0, hz1, hz2⟩ := info_parts info_u64
    go_wp2_with fail
    refine (words_nat a _ (by omega) n1).mono ?_
    rintro e w2 ⟨v, rfl, hv, hb2⟩
    go_wp2_with fail
    refine (words_nat b _ (by omega) n2).mono ?_
    rintro e w3 ⟨u, rfl, hu, hb3⟩
    have hbl3 := hbl.trans ((hb2.mono hbl.size).trans (hb3.mono (Nat.le_trans hbl.size hb2.size)))
    obtain ⟨oa, cap, rfl, hcap, hcm⟩ := hv.shp
    obtain ⟨ob, cap', rfl, hcap', hcm'⟩ := hu.shp
    have HV := Lib.hid (hv.below hb3)
    have HU := Lib.hid hu
    have HB3 := Lib.hid hbl3
    clear hv hu hb2 hb3 hbl hbl3
    go_wp2_with (at_make; refine wpList_make_full _ rfl _ _ 69 rfl w3.heap.size 75 i0 (.int .u64 0) 1 Try.underlying69 hi hz0 hz1 .i64 .i64 _ _ ((digs (nv a)).length + (digs (nv b)).length + 1) rfl rfl (by omega) (by omega) (by rw [hz2]; omega) (by unfold maxLen; omega) (Nat.le_refl _) ?_)
    intro w4 hown hgrow
    have hown4 := OwnN.made hown
    have hbl4 := below_grown (B := w3.heap.size) hgrow (Nat.le_refl _) (by simp)
    have HO4 := Lib.hid hown4
    have HB4 := Lib.hid hbl4
    clear hown hgrow hown4 hbl4 hi hz0 hz1 hz2
    go_wp2_with fail
    go_loopw [35] (fun i wr => ∃ k : Nat, k ≤ (digs (nv a)).length ∧ i = .int .i64 k ∧ mulOut w3 w3.heap.size (digs (nv a)) (digs (nv b)) w3.heap.size ((digs (nv a)).length + (digs (nv b)).length + 1) k wr) (fun i _ => (digs (nv a)).length - (intOf i).toNat)
    case atStart => exact ⟨0, Nat.zero_le _, rfl, _, by simp, (by rw [← dgl_zero]; exact small_dgl _ _), by rw [← dgl_zero, dv_dgl]; simp [dv], HO4.out, HB4.out⟩
    case round =>
      obtain ⟨i, hi, rfl, L, hL, hsL, hd, hown, hbl⟩ := hrel
      have HL := Lib.hid hL
      have HD := Lib.hid hd
      have HO := Lib.hid hown
      clear hL hd hown
      by_cases hlt : i < (digs (nv a)).length
      · obtain ⟨g, rfl, hg1, hg2⟩ := OwnN.at HV.out (by omega)
        have hcx := (OwnN.below HV.out hbl).cell i hlt
        have hxs := small_digs (nv a) (digs (nv a))[i] (List.getElem_mem _)
        generalize hgx : (digs (nv a))[i] = x at *
        have HGX := Lib.hid hgx
        clear hgx
        have hxs2 : x < 4294967296 := by unfold B32 at hxs; exact hxs
        obtain ⟨wo, rfl⟩ : ∃ wo, wo = wr := ⟨_, rfl⟩
        go_wp2_with fail
        go_loopw [12, 42] (fun o j wr => ∃ k : Nat, k ≤ (digs (nv b)).length ∧ j = .int .i64 k ∧ mulIn w3 w3.heap.size (digs (nv a)) (digs (nv b)) w3.heap.size ((digs (nv a)).length + (digs (nv b)).length + 1) i x k o wr) (fun _ j _ => (digs (nv b)).length - (intOf j).toNat)
        case atStart => exact ⟨0, Nat.zero_le _, rfl, 0, L, by unfold B32; omega, rfl, HL.out, hsL, by rw [HD.out]; simp [dv], HO.out, hbl⟩
        case round =>
          clear hbl
          obtain ⟨j, hj, rfl, o, L', ho, rfl, hL', hsL', hI', hown', hbl'⟩ := hrel
          have HL' := Lib.hid hL'
          have HI' := Lib.hid hI'
          clear hL' hI'
          have ho2 : o < 4294967296 := by unfold B32 at ho; exact ho
          by_cases hltj : j < (digs (nv b)).length
          · obtain ⟨g', rfl, hg3, hg4⟩ := OwnN.at HU.out (by omega)
            have hcy := (OwnN.below HU.out hbl').cell j hltj
            have hys := small_digs (nv b) (digs (nv b))[j] (List.getElem_mem _)
            generalize hgy : (digs (nv b))[j] = y at *
            have HGY := Lib.hid hgy
            clear hgy
            have hij : i + j < L'.length := by rw [HL'.out]; omega
            have hcl := hown'.cell (i + j) hij
            have hfl := hown'.frozen (i + j)
            have hls := hsL' L'[i + j] (List.getElem_mem _)
            generalize hgl : L'[i + j] = l at *
            have HGL := Lib.hid hgl
            clear hgl
            have hys2 : y < 4294967296 := by unfold B32 at hys; exact hys
            have hls2 : l < 4294967296 := by unfold B32 at hls; exact hls
            have hxy0 : x * y ≤ 4294967295 * 4294967295 := Nat.mul_le_mul (by omega) (by omega)
            have hxy1 : (0 : Int) ≤ (x : Int) * (y : Int) := by rw [← Int.natCast_mul]; omega
            have hxy2 : (x : Int) * (y : Int) ≤ 18446744065119617025 := by rw [← Int.natCast_mul]; omega
            have HXY := Lib.hid hxy0
            clear hxy0
            go_wp2_with fail
            go_roundw
            case rel =>
              have h0 := HXY.out
              have e1 : (o : Int) + ((l : Int) + (x : Int) * (y : Int)) = ((o + (l + x * y) : Nat) : Int) := by simp
              have hlt : o + (l + x * y) < 18446744073709551616 := by omega
              refine ⟨j + 1, by omega, by go_num, mul_rel HL'.out hsL' (by omega) hltj ho hxs hys hls HI'.out hown' hbl' (Nat.le_refl _) HGY.out HGL.out ?_ ?_⟩
              · rw [e1, mask32 _ hlt]; rfl
              · rw [e1]; generalize o + (l + x * y) = t; unfold B32; omega
            case measure => simp [intOf]; omega
          · obtain rfl : j = (digs (nv b)).length := by omega
            have hij : i + (digs (nv b)).length < L'.length := by rw [HL'.out]; omega
            have hend := HI'.out
            rw [List.take_length, ← HGX.out] at hend
            have hend2 := mul_end L' (digs (nv a)) (digs (nv b)) i o (small_digs _) (small_digs _) hlt hij hend
            have hcl := hown'.cell (i + (digs (nv b)).length) hij
            have hfl := hown'.frozen (i + (digs (nv b)).length)
            have hst := hown'.stored (i + (digs (nv b)).length) (L'[i + (digs (nv b)).length] + o)
            generalize hgl : L'[i + (digs (nv b)).length] = l at *
            have hlo : l + o < 4294967296 := by have := hend2.2; unfold B32 at this; exact this
            have HE := Lib.hid hend2
            have HS := Lib.hid hst
            clear hgl hend hend2 hst
            go_wp2_with fail
            go_roundw
            case rel =>
              refine ⟨i + 1, by omega, by go_num, _, by rw [List.length_set]; exact HL'.out, small_set hsL' HE.out.2, HE.out.1, ?_, hbl'.setCell (p := ⟨w3.heap.size, i + (digs (nv b)).length, none⟩) (Nat.le_refl _) _⟩
              have h := HS.out.1
              rw [show ((l + o : Nat) : Int) = (l : Int) + o by omega] at h
              exact h
            case measure => simp [intOf]; omega
      · obtain rfl : i = (digs (nv a)).length := by omega
        have hd := HD.out
        rw [List.take_length, dv_digs, dv_digs] at hd
        have HD2 := Lib.hid hd
        clear hd
        go_wp2_with fail
        refine (short_any _ _ L wr (by have h := HO.out; rw [← HL.out] at h; rw [← HL.out]; exact h) hsL (by rw [HL.out]; omega)).mono ?_
        rintro e w5 ⟨rfl, hb5⟩
        go_wp2_with fail
        go_ret2
        have hbw : Below w.heap.size w wr := HB3.out.trans (hbl.mono HB3.out.size)
        exact ⟨by rw [E.out, ← HD2.out]; rfl, hbw.trans (hb5.mono hbw.size)⟩
  · have E : Hid (mulF a b = (bE, chkN [a, b])) := if_neg h
    have h2 : (chkN [a, b] != 0) = true := by simpa using h
    go_wp2_with fail
    go_ret2
    exact ⟨by rw [E.out]; rfl, hbl⟩

end Go.Proofs.Ytieapjdabffjcaa
