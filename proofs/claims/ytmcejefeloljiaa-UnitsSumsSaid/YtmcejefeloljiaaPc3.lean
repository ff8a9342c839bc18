/-
  The walks of package naturals: Add.
-/
import Derived.Test.YtmcejefeloljiaaPc2
namespace Go.Proofs.Ytmcejefeloljiaa
set_option linter.unusedVariables false
set_option linter.unusedSimpArgs false
open Go.RowKit Nm

/-- the relation of the loop of 'Add' -/
def addRel (w : World) (B : Nat) (X Y : List Nat) (k : Nat) (c l : Value) (wr : World) : Prop :=
  ∃ (c' : Nat) (R : List Nat), c' ≤ 1 ∧ c = .int .u64 (c' : Int) ∧ R.length = k ∧ small R ∧ dv R + c' * B32 ^ k = dv (X.take k) + dv (Y.take k) ∧ OwnU wr B l R ∧ Below B w wr ∧ (max X.length Y.length < k → c' = 0)

theorem add_rel {w wr w1 : World} {B k c x y : Nat} {X Y R : List Nat} {l l' : Value} {zc : Int} {E : TypeId} {v : Value} (hR : R.length = k) (hs : small R) (hc : c ≤ 1) (hxs : x < 4294967296) (hys : y < 4294967296)
    (hI : dv R + c * B32 ^ k = dv (X.take k) + dv (Y.take k)) (hown : OwnU w1 B l' (R ++ [(c + x + y) % 4294967296]))
    (hB : B ≤ wr.heap.size) (hbl : Below B w wr) (hol : OwnU wr B l R) (hgr : (wr.alloc (.cells #[v] E)).grownBy w1 l.ownBlock)
    (hx : X.getD k 0 = x) (hy : Y.getD k 0 = y) (hzc : zc = (((c + x + y) / 4294967296 : Nat) : Int)) : addRel w B X Y (k + 1) (.int .u64 zc) l' w1 := by
  subst hzc
  have e : B32 = 4294967296 := rfl
  refine ⟨(c + x + y) / 4294967296, R ++ [(c + x + y) % 4294967296], by omega, rfl, by simp [hR], small_snoc hs (Nat.mod_lt _ (by omega)), ?_, hown, grown_below hbl hol hgr hB, fun h => ?_⟩
  · have h := add_step R X Y k c hR hI
    rw [hx, hy, e] at h
    rw [e]; exact h
  · have hx0 : x = 0 := by rw [← hx]; simp [List.getD, List.getElem?_eq_none (by omega : X.length ≤ k)]
    have hy0 : y = 0 := by rw [← hy]; simp [List.getD, List.getElem?_eq_none (by omega : Y.length ≤ k)]
    omega

set_option maxHeartbeats 1000000 in
theorem add_loop (a b : ByteArray) (w : World) (ha : a.size ≤ maxLen) (hb : b.size ≤ maxLen) :
    Calls Try.prog 148 #[.string a, .string b] w fun e w' => e = .returned (.tuple #[.string (addF a b).1, .int .i64 (addF a b).2]) ∧ Below w.heap.size w w' := by
  go_enter Try.func148, Try.ntmps148
  go_wp2_with fail
  refine (check2 a b w ha hb).mono ?_
  rintro e w' ⟨rfl, rfl⟩
  have hbl : Below w.heap.size w (w.alloc (.cells #[.string a, .string b] 9)) := (Below.refl _ _).alloc (Nat.le_refl _) _
  generalize w.alloc (.cells #[.string a, .string b] 9) = w1 at *
  by_cases h : chkN [a, b] = 0
  · have E : Hid (addF a b = shortN (nv a + nv b)) := if_pos h
    obtain ⟨n1, n2, s1, s2⟩ := chk2_zero h
    rw [h]
    clear h ha hb
    have l1 := digs_of_size s1
    have l2 := digs_of_size s2
    go_wp2_with fail
    refine (words_nat a _ (by omega) n1).mono ?_
    rintro e w2 ⟨v, rfl, hv, hb2⟩
    go_wp2_with fail
    refine (words_nat b _ (by omega) n2).mono ?_
    rintro e w3 ⟨u, rfl, hu, hb3⟩
    have hbl3 := hbl.trans ((hb2.mono hbl.size).trans (hb3.mono (Nat.le_trans hbl.size hb2.size)))
    obtain ⟨oa, cap, rfl, hcap, hcm⟩ := hv.shp
    obtain ⟨ob, cap', rfl, hcap', hcm'⟩ := hu.shp
    have HV := Lib.hid (hv.below hb3)
    have HU := Lib.hid hu
    have HB3 := Lib.hid hbl3
    clear hv hu hb2 hb3 hbl hbl3
    go_wp2_with fail
    go_loopw [9, 10, 11] (fun l c i wr => ∃ k : Nat, k ≤ max (digs (nv a)).length (digs (nv b)).length + 1 ∧ i = .int .i64 k ∧ addRel w3 w3.heap.size (digs (nv a)) (digs (nv b)) k c l wr) (fun _ _ i _ => max (digs (nv a)).length (digs (nv b)).length + 2 - (intOf i).toNat)
    case atStart => exact ⟨0, Nat.zero_le _, rfl, 0, [], by omega, rfl, rfl, (fun x hx => by cases hx), by simp [dv], OwnN.nil _ _ _ _, Below.refl _ _, fun h => by omega⟩
    case round =>
      obtain ⟨k, hk, rfl, c, R, hc, rfl, hR, hsR, hI, hown, hbl, hlast⟩ := hrel
      obtain ⟨ol, cl, hlv, hcl, hclm⟩ := hown.shp
      rw [hR] at hlv hcl
      subst hlv
      have HR := Lib.hid hR
      have HI := Lib.hid hI
      have HL := Lib.hid hlast
      clear hR hI hlast
      have hxs := getD_lt (small_digs (nv a)) k
      have hys := getD_lt (small_digs (nv b)) k
      generalize hgx : (digs (nv a)).getD k 0 = x at hxs
      generalize hgy : (digs (nv b)).getD k 0 = y at hys
      unfold B32 at hxs hys
      have hx0 : (digs (nv a)).length ≤ k → x = 0 := fun h => by rw [← hgx]; simp [List.getD, List.getElem?_eq_none h]
      have hy0 : (digs (nv b)).length ≤ k → y = 0 := fun h => by rw [← hgy]; simp [List.getD, List.getElem?_eq_none h]
      have HX0 := Lib.hid hx0
      have HY0 := Lib.hid hy0
      have HGX := Lib.hid hgx
      have HGY := Lib.hid hgy
      clear hx0 hy0 hgx hgy
      by_cases hkx : k < (digs (nv a)).length
      · obtain ⟨g, rfl, hg1, hg2⟩ := OwnN.at HV.out (by omega)
        have hcx := (OwnN.below HV.out hbl).cell k hkx
        have hgx2 : (digs (nv a))[k] = x := by rw [← HGX.out]; simp [List.getD, hkx]
        rw [hgx2] at hcx
        clear hgx2
        by_cases hky : k < (digs (nv b)).length
        · obtain ⟨g', rfl, hg3, hg4⟩ := OwnN.at HU.out (by omega)
          have hcy := (OwnN.below HU.out hbl).cell k hky
          have hgy2 : (digs (nv b))[k] = y := by rw [← HGY.out]; simp [List.getD, hky]
          rw [hgy2] at hcy
          clear hgy2
          go_wp2_with (at_builtin; refine append1 wr rfl _ _ 153 rfl w3.heap.size 159 .u64 8 info_u64 Try.underlying153 _ R hown rfl _ _ ((c + x + y) % 4294967296) (mask32 (c + x + y) (by omega)) rfl (by rw [HR.out]; omega) (by omega) hbl.size ?_)
          intro l' w4 hown' hgrow
          have HRL := add_rel (x := x) (y := y) (zc := ((((c + x + y) / 4294967296 : Nat)) : Int)) HR.out hsR hc (by omega) (by omega) HI.out hown' hbl.size hbl hown hgrow HGX.out HGY.out rfl
          have HRL2 := Lib.hid HRL
          clear HRL hown' hgrow hown hbl hcx hcy
          go_wp2_with fail
          go_roundw
          case rel => exact ⟨k + 1, by omega, by go_num, by have := HRL2.out; rw [show (((c + x + y) / 4294967296 : Nat) : Int) = ((c : Int) + x + y) / 4294967296 from by omega] at this; exact this⟩
          case measure => simp [intOf]; omega
        · go_wp2_with (at_builtin; refine append1 wr rfl _ _ 153 rfl w3.heap.size 159 .u64 8 info_u64 Try.underlying153 _ R hown rfl _ _ ((c + x) % 4294967296) (mask32 (c + x) (by omega)) rfl (by rw [HR.out]; omega) (by omega) hbl.size ?_)
          intro l' w4 hown' hgrow
          have HRL := add_rel (x := x) (y := 0) (zc := ((((c + x) / 4294967296 : Nat)) : Int)) HR.out hsR hc (by omega) (by omega) HI.out hown' hbl.size hbl hown hgrow HGX.out (HGY.out.trans (HY0.out (by omega))) rfl
          have HRL2 := Lib.hid HRL
          clear HRL hown' hgrow hown hbl hcx
          go_wp2_with fail
          go_roundw
          case rel => exact ⟨k + 1, by omega, by go_num, by have := HRL2.out; rw [show (((c + x) / 4294967296 : Nat) : Int) = ((c : Int) + x) / 4294967296 from by omega] at this; exact this⟩
          case measure => simp [intOf]; omega
      · by_cases hky : k < (digs (nv b)).length
        · obtain ⟨g', rfl, hg3, hg4⟩ := OwnN.at HU.out (by omega)
          have hcy := (OwnN.below HU.out hbl).cell k hky
          have hgy2 : (digs (nv b))[k] = y := by rw [← HGY.out]; simp [List.getD, hky]
          rw [hgy2] at hcy
          clear hgy2
          go_wp2_with (at_builtin; refine append1 wr rfl _ _ 153 rfl w3.heap.size 159 .u64 8 info_u64 Try.underlying153 _ R hown rfl _ _ ((c + y) % 4294967296) (mask32 (c + y) (by omega)) rfl (by rw [HR.out]; omega) (by omega) hbl.size ?_)
          intro l' w4 hown' hgrow
          have HRL := add_rel (x := 0) (y := y) (zc := ((((c + y) / 4294967296 : Nat)) : Int)) HR.out hsR hc (by omega) (by omega) HI.out hown' hbl.size hbl hown hgrow (HGX.out.trans (HX0.out (by omega))) HGY.out rfl
          have HRL2 := Lib.hid HRL
          clear HRL hown' hgrow hown hbl hcy
          go_wp2_with fail
          go_roundw
          case rel => exact ⟨k + 1, by omega, by go_num, by have := HRL2.out; rw [show (((c + y) / 4294967296 : Nat) : Int) = ((c : Int) + y) / 4294967296 from by omega] at this; exact this⟩
          case measure => simp [intOf]; omega
        · by_cases hc0 : 0 < c
          · have hk2 : ¬ max (digs (nv a)).length (digs (nv b)).length < k := fun h => by have := HL.out h; omega
            go_wp2_with (at_builtin; refine append1 wr rfl _ _ 153 rfl w3.heap.size 159 .u64 8 info_u64 Try.underlying153 _ R hown rfl _ _ ((c) % 4294967296) (mask32 (c) (by omega)) rfl (by rw [HR.out]; omega) (by omega) hbl.size ?_)
            intro l' w4 hown' hgrow
            have HRL := add_rel (x := 0) (y := 0) (zc := ((((c) / 4294967296 : Nat)) : Int)) HR.out hsR hc (by omega) (by omega) HI.out hown' hbl.size hbl hown hgrow (HGX.out.trans (HX0.out (by omega))) (HGY.out.trans (HY0.out (by omega))) rfl
            have HRL2 := Lib.hid HRL
            clear HRL hown' hgrow hown hbl
            go_wp2_with fail
            go_roundw
            case rel => exact ⟨k + 1, by omega, by go_num, by have := HRL2.out; rw [show (((c) / 4294967296 : Nat) : Int) = ((c : Int)) / 4294967296 from by omega] at this; exact this⟩
            case measure => simp [intOf]; omega
          · obtain rfl : c = 0 := by omega
            have hd : dv R = nv a + nv b := by
              have h := HI.out
              rw [List.take_of_length_le (by omega), List.take_of_length_le (by omega), dv_digs, dv_digs] at h
              omega
            have HD := Lib.hid hd
            clear hd
            go_wp2_with fail
            refine (short_any _ _ R wr hown hsR (by rw [HR.out]; omega)).mono ?_
            rintro e w5 ⟨rfl, hb5⟩
            go_wp2_with fail
            go_ret2
            have hbw : Below w.heap.size w wr := HB3.out.trans (hbl.mono HB3.out.size)
            exact ⟨by rw [E.out, ← HD.out]; rfl, hbw.trans (hb5.mono hbw.size)⟩
  · have E : Hid (addF a b = (bE, chkN [a, b])) := if_neg h
    have h2 : (chkN [a, b] != 0) = true := by simpa using h
    go_wp2_with fail
    go_ret2
    exact ⟨by rw [E.out]; rfl, hbl⟩

end Go.Proofs.Ytmcejefeloljiaa

/-
  The walks of package naturals: Mul.
-/
namespace Go.Proofs.Ytmcejefeloljiaa
set_option linter.unusedVariables false
set_option linter.unusedSimpArgs false
open Go.RowKit Nm

/-- between two rounds of the outer loop -/
def mulOut (w : World) (B : Nat) (X Y : List Nat) (g n i : Nat) (wr : World) : Prop :=
  ∃ L : List Nat, L.length = n ∧ small L ∧ dv L = dv (X.take i) * dv Y ∧ OwnU wr B (.slice (some ⟨g, 0, none⟩) n n) L ∧ Below B w wr
/-- between two rounds of the inner loop -/
def mulIn (w : World) (B : Nat) (X Y : List Nat) (g n i x j : Nat) (ov : Value) (wr : World) : Prop :=
  ∃ (o : Nat) (L : List Nat), o < B32 ∧ ov = .int .u64 (o : Int) ∧ L.length = n ∧ small L ∧ dv L + o * B32 ^ (i + j) = dv (X.take i) * dv Y + x * B32 ^ i * dv (Y.take j) ∧ OwnU wr B (.slice (some ⟨g, 0, none⟩) n n) L ∧ Below B w wr

theorem mul_rel {w wr : World} {B g n i x j o y l : Nat} {X Y L : List Nat} {z zo : Int} (hL : L.length = n) (hs : small L) (hp : i + j < n) (hj : j < Y.length) (ho : o < B32) (hx : x < B32) (hyb : y < B32) (hlb : l < B32)
    (hI : dv L + o * B32 ^ (i + j) = dv (X.take i) * dv Y + x * B32 ^ i * dv (Y.take j)) (hown : OwnU wr B (.slice (some ⟨g, 0, none⟩) n n) L) (hbl : Below B w wr) (hBg : B ≤ g)
    (hy : Y[j] = y) (hl : L[i + j]'(by omega) = l) (hz : z = (((o + (l + x * y)) % B32 : Nat) : Int)) (hzo : zo = (((o + (l + x * y)) / B32 : Nat) : Int)) :
    mulIn w B X Y g n i x (j + 1) (.int .u64 zo) (wr.setCell ⟨g, i + j, none⟩ (.int .u64 z)) := by
  subst hz hzo
  have hB : 0 < B32 := by unfold B32; omega
  refine ⟨(o + (l + x * y)) / B32, L.set (i + j) ((o + (l + x * y)) % B32), ?_, rfl, by simpa using hL, small_set hs (Nat.mod_lt _ hB), ?_, (OwnN.stored hown (i + j) _).1, hbl.setCell (p := ⟨g, i + j, none⟩) hBg _⟩
  · rw [Nat.div_lt_iff_lt_mul hB]
    have h1 : x * y ≤ (B32 - 1) * (B32 - 1) := Nat.mul_le_mul (by omega) (by omega)
    have h2 : (B32 - 1) * (B32 - 1) + 2 * (B32 - 1) < B32 * B32 := by unfold B32; omega
    omega
  · have h := mul_step L Y (dv (X.take i) * dv Y) i j x o (by omega) hj hI
    rw [hy, hl] at h
    exact h

set_option maxHeartbeats 1000000 in
theorem Mul_any (a b : ByteArray) (w : World) (ha : a.size ≤ maxLen) (hb : b.size ≤ maxLen) :
    Calls Try.prog 123 #[.string a, .string b] w fun e w' => e = .returned (.tuple #[.string (mulF a b).1, .int .i64 (mulF a b).2]) ∧ Below w.heap.size w w' := by
  go_enter Try.func123, Try.ntmps123
  go_wp2_with fail
  refine (check2 a b w ha hb).mono ?_
  rintro e w' ⟨rfl, rfl⟩
  have hbl : Below w.heap.size w (w.alloc (.cells #[.string a, .string b] 9)) := (Below.refl _ _).alloc (Nat.le_refl _) _
  generalize w.alloc (.cells #[.string a, .string b] 9) = w1 at *
  by_cases h : chkN [a, b] = 0
  · have E : Hid (mulF a b = shortN (nv a * nv b)) := if_pos h
    obtain ⟨n1, n2, s1, s2⟩ := chk2_zero h
    rw [h]
    clear h ha hb
    have l1 := digs_of_size s1
    have l2 := digs_of_size s2
    obtain ⟨i0, hi, hz0, hz1, hz2⟩ := info_parts info_u64
    go_wp2_with fail
    refine (words_nat a _ (by omega) n1).mono ?_
    rintro e w2 ⟨v, rfl, hv, hb2⟩
    go_wp2_with fail
    refine (words_nat b _ (by omega) n2).mono ?_
    rintro e w3 ⟨u, rfl, hu, hb3⟩
    have hbl3 := hbl.trans ((hb2.mono hbl.size).trans (hb3.mono (Nat.le_trans hbl.size hb2.size)))
    obtain ⟨oa, cap, rfl, hcap, hcm⟩ := hv.shp
    obtain ⟨ob, cap', rfl, hcap', hcm'⟩ := hu.shp
    have HV := Lib.hid (hv.below hb3)
    have HU := Lib.hid hu
    have HB3 := Lib.hid hbl3
    clear hv hu hb2 hb3 hbl hbl3
    go_wp2_with (at_make; refine wpList_make_full _ rfl _ _ 153 rfl w3.heap.size 159 i0 (.int .u64 0) 1 Try.underlying153 hi hz0 hz1 .i64 .i64 _ _ ((digs (nv a)).length + (digs (nv b)).length + 1) rfl rfl (by omega) (by omega) (by rw [hz2]; omega) (by unfold maxLen; omega) (Nat.le_refl _) ?_)
    intro w4 hown hgrow
    have hown4 := OwnN.made hown
    have hbl4 := below_grown (B := w3.heap.size) hgrow (Nat.le_refl _) (by simp)
    have HO4 := Lib.hid hown4
    have HB4 := Lib.hid hbl4
    clear hown hgrow hown4 hbl4 hi hz0 hz1 hz2
    go_wp2_with fail
    go_loopw [35] (fun i wr => ∃ k : Nat, k ≤ (digs (nv a)).length ∧ i = .int .i64 k ∧ mulOut w3 w3.heap.size (digs (nv a)) (digs (nv b)) w3.heap.size ((digs (nv a)).length + (digs (nv b)).length + 1) k wr) (fun i _ => (digs (nv a)).length - (intOf i).toNat)
    case atStart => exact ⟨0, Nat.zero_le _, rfl, _, by simp, (by rw [← dgl_zero]; exact small_dgl _ _), by rw [← dgl_zero, dv_dgl]; simp [dv], HO4.out, HB4.out⟩
    case round =>
      obtain ⟨i, hi, rfl, L, hL, hsL, hd, hown, hbl⟩ := hrel
      have HL := Lib.hid hL
      have HD := Lib.hid hd
      have HO := Lib.hid hown
      clear hL hd hown
      by_cases hlt : i < (digs (nv a)).length
      · obtain ⟨g, rfl, hg1, hg2⟩ := OwnN.at HV.out (by omega)
        have hcx := (OwnN.below HV.out hbl).cell i hlt
        have hxs := small_digs (nv a) (digs (nv a))[i] (List.getElem_mem _)
        generalize hgx : (digs (nv a))[i] = x at *
        have HGX := Lib.hid hgx
        clear hgx
        have hxs2 : x < 4294967296 := by unfold B32 at hxs; exact hxs
        obtain ⟨wo, rfl⟩ : ∃ wo, wo = wr := ⟨_, rfl⟩
        go_wp2_with fail
        go_loopw [12, 42] (fun o j wr => ∃ k : Nat, k ≤ (digs (nv b)).length ∧ j = .int .i64 k ∧ mulIn w3 w3.heap.size (digs (nv a)) (digs (nv b)) w3.heap.size ((digs (nv a)).length + (digs (nv b)).length + 1) i x k o wr) (fun _ j _ => (digs (nv b)).length - (intOf j).toNat)
        case atStart => exact ⟨0, Nat.zero_le _, rfl, 0, L, by unfold B32; omega, rfl, HL.out, hsL, by rw [HD.out]; simp [dv], HO.out, hbl⟩
        case round =>
          clear hbl
          obtain ⟨j, hj, rfl, o, L', ho, rfl, hL', hsL', hI', hown', hbl'⟩ := hrel
          have HL' := Lib.hid hL'
          have HI' := Lib.hid hI'
          clear hL' hI'
          have ho2 : o < 4294967296 := by unfold B32 at ho; exact ho
          by_cases hltj : j < (digs (nv b)).length
          · obtain ⟨g', rfl, hg3, hg4⟩ := OwnN.at HU.out (by omega)
            have hcy := (OwnN.below HU.out hbl').cell j hltj
            have hys := small_digs (nv b) (digs (nv b))[j] (List.getElem_mem _)
            generalize hgy : (digs (nv b))[j] = y at *
            have HGY := Lib.hid hgy
            clear hgy
            have hij : i + j < L'.length := by rw [HL'.out]; omega
            have hcl := hown'.cell (i + j) hij
            have hfl := hown'.frozen (i + j)
            have hls := hsL' L'[i + j] (List.getElem_mem _)
            generalize hgl : L'[i + j] = l at *
            have HGL := Lib.hid hgl
            clear hgl
            have hys2 : y < 4294967296 := by unfold B32 at hys; exact hys
            have hls2 : l < 4294967296 := by unfold B32 at hls; exact hls
            have hxy0 : x * y ≤ 4294967295 * 4294967295 := Nat.mul_le_mul (by omega) (by omega)
            have hxy1 : (0 : Int) ≤ (x : Int) * (y : Int) := by rw [← Int.natCast_mul]; omega
            have hxy2 : (x : Int) * (y : Int) ≤ 18446744065119617025 := by rw [← Int.natCast_mul]; omega
            have HXY := Lib.hid hxy0
            clear hxy0
            go_wp2_with fail
            go_roundw
            case rel =>
              have h0 := HXY.out
              have e1 : (o : Int) + ((l : Int) + (x : Int) * (y : Int)) = ((o + (l + x * y) : Nat) : Int) := by simp
              have hlt : o + (l + x * y) < 18446744073709551616 := by omega
              refine ⟨j + 1, by omega, by go_num, mul_rel HL'.out hsL' (by omega) hltj ho hxs hys hls HI'.out hown' hbl' (Nat.le_refl _) HGY.out HGL.out ?_ ?_⟩
              · rw [e1, mask32 _ hlt]; rfl
              · rw [e1]; generalize o + (l + x * y) = t; unfold B32; omega
            case measure => simp [intOf]; omega
          · obtain rfl : j = (digs (nv b)).length := by omega
            have hij : i + (digs (nv b)).length < L'.length := by rw [HL'.out]; omega
            have hend := HI'.out
            rw [List.take_length, ← HGX.out] at hend
            have hend2 := mul_end L' (digs (nv a)) (digs (nv b)) i o (small_digs _) (small_digs _) hlt hij hend
            have hcl := hown'.cell (i + (digs (nv b)).length) hij
            have hfl := hown'.frozen (i + (digs (nv b)).length)
            have hst := hown'.stored (i + (digs (nv b)).length) (L'[i + (digs (nv b)).length] + o)
            generalize hgl : L'[i + (digs (nv b)).length] = l at *
            have hlo : l + o < 4294967296 := by have := hend2.2; unfold B32 at this; exact this
            have HE := Lib.hid hend2
            have HS := Lib.hid hst
            clear hgl hend hend2 hst
            go_wp2_with fail
            go_roundw
            case rel =>
              refine ⟨i + 1, by omega, by go_num, _, by rw [List.length_set]; exact HL'.out, small_set hsL' HE.out.2, HE.out.1, ?_, hbl'.setCell (p := ⟨w3.heap.size, i + (digs (nv b)).length, none⟩) (Nat.le_refl _) _⟩
              have h := HS.out.1
              rw [show ((l + o : Nat) : Int) = (l : Int) + o by omega] at h
              exact h
            case measure => simp [intOf]; omega
      · obtain rfl : i = (digs (nv a)).length := by omega
        have hd := HD.out
        rw [List.take_length, dv_digs, dv_digs] at hd
        have HD2 := Lib.hid hd
        clear hd
        go_wp2_with fail
        refine (short_any _ _ L wr (by have h := HO.out; rw [← HL.out] at h; rw [← HL.out]; exact h) hsL (by rw [HL.out]; omega)).mono ?_
        rintro e w5 ⟨rfl, hb5⟩
        go_wp2_with fail
        go_ret2
        have hbw : Below w.heap.size w wr := HB3.out.trans (hbl.mono HB3.out.size)
        exact ⟨by rw [E.out, ← HD2.out]; rfl, hbw.trans (hb5.mono hbw.size)⟩
  · have E : Hid (mulF a b = (bE, chkN [a, b])) := if_neg h
    have h2 : (chkN [a, b] != 0) = true := by simpa using h
    go_wp2_with fail
    go_ret2
    exact ⟨by rw [E.out]; rfl, hbl⟩

end Go.Proofs.Ytmcejefeloljiaa

/-
  The contracts of package naturals, as a table for the symbolic executor.
-/
namespace Go.Proofs.Ytmcejefeloljiaa
open Go.RowKit Nm Go.SX

/-- a text by its bytes -/
def bs (l : List UInt8) : ByteArray := ⟨⟨l⟩⟩
/-- a text that memory holds -/
def szB (a : ByteArray) : Bool := decide (a.size ≤ maxLen)
theorem szB_iff {a : ByteArray} : szB a = true ↔ a.size ≤ maxLen := by simp [szB]
def inI (n : Int) : Bool := decide (-9223372036854775808 ≤ n) && decide (n ≤ 9223372036854775807)
def two (f : ByteArray → ByteArray → ByteArray × Int) (vs : List Value) : R3 OutE :=
  match vs with
  | [.string a, .string b] => .need (szB a && szB b) (.ok (.ret (.tup [.val (.string (f a b).1), .val (.int .i64 (f a b).2)])))
  | _ => .no
def natCon : ECon := fun f =>
  match f with
  | 148 => some (two addF)
  | 123 => some (two mulF)
  | 165 => some (two subF)
  | 60 => some (two gcdF)
  | 124 => some fun vs => match vs with
    | [.string a, .string b] => .need (szB a && szB b) (.ok (.ret (.tup [.val (.int .i64 (cmpF a b).1), .val (.int .i64 (cmpF a b).2)])))
    | _ => .no
  | 53 => some fun vs => match vs with
    | [.string a, .string b] => .need (szB a && szB b) (.ok (.ret (.tup [.val (.string (divF a b).1), .val (.string (divF a b).2.1), .val (.int .i64 (divF a b).2.2)])))
    | _ => .no
  | 59 => some fun vs => match vs with
    | [.string a] => .need (szB a) (.ok (.ret (.val (.int .i64 (chkN [a])))))
    | _ => .no
  | 102 => some fun vs => match vs with
    | [.int .i64 n] => .need (inI n) (.ok (.ret (.tup [.val (.string (ofF n).1), .val (.int .i64 (ofF n).2)])))
    | _ => .no
  | 54 => some fun vs => match vs with
    | [.string a] => .need (szB a) (.ok (.ret (.tup [.val (.int .i64 (intF a).1), .val (.bool (intF a).2)])))
    | _ => .no
  | _ => none
theorem pOk : POk Try.prog := by
  refine ⟨?_, by kernel_rfl⟩
  have h : Try.prog.funcs.toList.all (fun fn => fn.body.isNone || !(fn.name == "runtime.NumGoroutine")) = true := by kernel_rfl
  intro f fn hf hb
  have h1 := List.all_eq_true.1 h fn (by rw [Array.mem_toList_iff]; exact Array.mem_of_getElem? hf)
  have h2 : fn.body.isNone = false := by cases hx : fn.body <;> simp_all
  rw [h2] at h1
  simpa using h1
theorem two_ok {f : FuncId} {g : ByteArray → ByteArray → ByteArray × Int} (h : ∀ a b w, a.size ≤ maxLen → b.size ≤ maxLen → Calls Try.prog f #[.string a, .string b] w fun e w' => e = .returned (.tuple #[.string (g a b).1, .int .i64 (g a b).2]) ∧ Below w.heap.size w w')
    (vs : List Value) (e : OutE) (he : (two g vs).res = some e) : ∃ e0, e.end = some e0 ∧ Plain Try.prog f vs e0 := by
  unfold two at he
  split at he
  · obtain ⟨h1, h2⟩ := R3.need_some he
    cases h2
    rw [Bool.and_eq_true, szB_iff, szB_iff] at h1
    exact ⟨_, rfl, fun w => h _ _ w h1.1 h1.2⟩
  · cases he
theorem natCon_ok : EConOk Try.prog natCon := by
  intro f h hf
  unfold natCon at hf
  split at hf <;> first | (cases hf; done) | skip
  · cases hf; exact ⟨⟨_, Try.func148, rfl⟩, two_ok fun a b w ha hb => add_loop a b w ha hb⟩
  · cases hf; exact ⟨⟨_, Try.func123, rfl⟩, two_ok fun a b w ha hb => Mul_any a b w ha hb⟩
  · cases hf; exact ⟨⟨_, Try.func165, rfl⟩, two_ok fun a b w ha hb => Sub_any a b w ha hb⟩
  · cases hf; exact ⟨⟨_, Try.func60, rfl⟩, two_ok fun a b w ha hb => Gcd_any a b w ha hb⟩
  · cases hf
    refine ⟨⟨_, Try.func124, rfl⟩, fun vs e he => ?_⟩
    simp only at he
    split at he
    · obtain ⟨h1, h2⟩ := R3.need_some he
      cases h2
      rw [Bool.and_eq_true, szB_iff, szB_iff] at h1
      exact ⟨_, rfl, fun w => Compare_any _ _ w h1.1 h1.2⟩
    · cases he
  · cases hf
    refine ⟨⟨_, Try.func53, rfl⟩, fun vs e he => ?_⟩
    simp only at he
    split at he
    · obtain ⟨h1, h2⟩ := R3.need_some he
      cases h2
      rw [Bool.and_eq_true, szB_iff, szB_iff] at h1
      exact ⟨_, rfl, fun w => Div_any _ _ w h1.1 h1.2⟩
    · cases he
  · cases hf
    refine ⟨⟨_, Try.func59, rfl⟩, fun vs e he => ?_⟩
    simp only at he
    split at he
    · obtain ⟨h1, h2⟩ := R3.need_some he
      cases h2
      exact ⟨_, rfl, fun w => Check_any _ w (szB_iff.1 h1)⟩
    · cases he
  · cases hf
    refine ⟨⟨_, Try.func102, rfl⟩, fun vs e he => ?_⟩
    simp only at he
    split at he
    · obtain ⟨h1, h2⟩ := R3.need_some he
      cases h2
      unfold inI at h1
      rw [Bool.and_eq_true] at h1
      exact ⟨_, rfl, fun w => Of_any _ w (of_decide_eq_true h1.1) (of_decide_eq_true h1.2)⟩
    · cases he
  · cases hf
    refine ⟨⟨_, Try.func54, rfl⟩, fun vs e he => ?_⟩
    simp only at he
    split at he
    · obtain ⟨h1, h2⟩ := R3.need_some he
      cases h2
      exact ⟨_, rfl, fun w => (Int_any _ w (szB_iff.1 h1)).mono fun e' w' h => ⟨h.1, by rw [← h.2]; exact Below.refl _ _⟩⟩
    · cases he

end Go.Proofs.Ytmcejefeloljiaa

/-
  Package ratios: what its functions come to, and the table of the inner ones.
-/
namespace Go.Proofs.Ytmcejefeloljiaa
open Go.RowKit Nm Go.SX

def rtV (r : Rt) : Value := .agg #[.bool r.neg, .string r.n, .string r.d]
def sgV (r : Sg) : Value := .agg #[.bool r.neg, .string r.n]
def panS (e : Int) : OutE := .pan (.val (.iface 174 (.agg #[.int .i64 e])))
def optS (o : Option ByteArray) : R3 OutE := .br o.isSome (.ok (.ret (.val (.string (o.getD ⟨#[]⟩))))) (.ok (panS 2))
def optG (o : Option Sg) : R3 OutE := .br o.isSome (.ok (.ret (.val (.agg #[.bool (o.getD ⟨false, ⟨#[]⟩⟩).neg, .string (o.getD ⟨false, ⟨#[]⟩⟩).n])))) (.ok (panS 2))
def zR : Rt := ⟨false, ⟨#[]⟩, ⟨#[]⟩⟩
def optR (o : Option Rt) : R3 OutE := .br o.isSome (.ok (.ret (.val (.agg #[.bool (o.getD zR).neg, .string (o.getD zR).n, .string (o.getD zR).d])))) (.ok (panS 2))
def ratCon : ECon := fun f =>
  match f with
  | 22 => some fun vs => match vs with
    | [.agg ⟨[.bool n, .string a, .string b]⟩] => .need (szB a && szB b) (.ok (.ret (.val (.int .i64 (checkR ⟨n, a, b⟩)))))
    | _ => .no
  | 70 => some fun vs => match vs with
    | [.string a, .string b] => .need (szB a && szB b) (optS (timesO a b))
    | _ => .no
  | 103 => some fun vs => match vs with
    | [.string a, .string b] => .need (szB a && szB b) (optS (plusO a b))
    | _ => .no
  | 155 => some fun vs => match vs with
    | [.agg ⟨[.bool n, .string a]⟩, .agg ⟨[.bool m, .string b]⟩] => .need (szB a && szB b) (optG (saddO ⟨n, a⟩ ⟨m, b⟩))
    | _ => .no
  | 50 => some fun vs => match vs with
    | [.agg ⟨[.bool n, .string a]⟩, .string d] => .need (szB a && szB d) (optR (overO ⟨n, a⟩ d))
    | _ => .no
  | 49 => some fun vs => match vs with
    | [.int .i64 n] => .need (inI n) (.ok (.ret (.val (.string (encS n.natAbs)))))
    | _ => .no
  | f => natCon f
/-- end of a call that hands back a text, or fails -/
def endS (o : Option ByteArray) : Ending := match o with | some s => .returned (.string s) | none => .panicked [{ v := .iface 174 (.agg #[.int .i64 2]), recovered := false }]

end Go.Proofs.Ytmcejefeloljiaa

/-
  What the symbolic executor shows of the inner functions of package ratios.
-/
namespace Go.Proofs.Ytmcejefeloljiaa
open Go.RowKit Nm Go.SX

set_option maxRecDepth 100000 in
theorem T_check (n : Bool) (a b : ByteArray) : sxEnd Try.prog Rd.no natCon.p 40 22 [.agg #[.bool n, .string a, .string b]] =
    bif szB a then
      bif chkN [a] != 0 then some (Ending.returned (Value.int IntKind.i64 70))
      else
        bif szB b then
          bif chkN [b] != 0 then some (Ending.returned (Value.int IntKind.i64 70))
          else
            bif b.toList == (bs []).toList then some (Ending.returned (Value.int IntKind.i64 70))
            else
              bif n then
                bif a.toList == (bs []).toList then some (Ending.returned (Value.int IntKind.i64 70))
                else
                  bif szB a && szB b then
                    bif !(gcdF a b).fst.toList == (bs [1]).toList then
                      some (Ending.returned (Value.int IntKind.i64 70))
                    else some (Ending.returned (Value.int IntKind.i64 0))
                  else none
              else
                bif szB a && szB b then
                  bif !(gcdF a b).fst.toList == (bs [1]).toList then
                    some (Ending.returned (Value.int IntKind.i64 70))
                  else some (Ending.returned (Value.int IntKind.i64 0))
                else none
        else none
    else none := by kernel_rfl

set_option maxRecDepth 100000 in
theorem T_times (a b : ByteArray) : sxEnd Try.prog Rd.no natCon.p 40 70 [.string a, .string b] =
    bif szB a && szB b then
      bif (mulF a b).snd != 0 then
        some
          (Ending.panicked
            [{ v := Value.iface 174 (Value.agg { toList := [Value.int IntKind.i64 2] }), recovered := false }])
      else some (Ending.returned (Value.string (mulF a b).fst))
    else none := by kernel_rfl

set_option maxRecDepth 100000 in
theorem T_plus (a b : ByteArray) : sxEnd Try.prog Rd.no natCon.p 40 103 [.string a, .string b] =
    bif szB a && szB b then
      bif (addF a b).snd != 0 then
        some
          (Ending.panicked
            [{ v := Value.iface 174 (Value.agg { toList := [Value.int IntKind.i64 2] }), recovered := false }])
      else some (Ending.returned (Value.string (addF a b).fst))
    else none := by kernel_rfl

set_option maxRecDepth 100000 in
theorem T_sadd (n m : Bool) (a b : ByteArray) : sxEnd Try.prog Rd.no natCon.p 40 155 [.agg #[.bool n, .string a], .agg #[.bool m, .string b]] =
    bif n == m then
      bif szB a && szB b then
        bif (addF a b).snd != 0 then
          some
            (Ending.panicked
              [{ v := Value.iface 174 (Value.agg { toList := [Value.int IntKind.i64 2] }), recovered := false }])
        else some (Ending.returned (Value.agg { toList := [Value.bool n, Value.string (addF a b).fst] }))
      else none
    else
      bif szB a && szB b then
        bif decide ((cmpF a b).fst < 0) then
          bif szB b && szB a then
            bif (subF b a).snd != 0 then
              some
                (Ending.panicked
                  [{ v := Value.iface 174 (Value.agg { toList := [Value.int IntKind.i64 2] }), recovered := false }])
            else some (Ending.returned (Value.agg { toList := [Value.bool m, Value.string (subF b a).fst] }))
          else none
        else
          bif szB a && szB b then
            bif (subF a b).snd != 0 then
              some
                (Ending.panicked
                  [{ v := Value.iface 174 (Value.agg { toList := [Value.int IntKind.i64 2] }), recovered := false }])
            else some (Ending.returned (Value.agg { toList := [Value.bool n, Value.string (subF a b).fst] }))
          else none
      else none := by kernel_rfl

set_option maxRecDepth 100000 in
theorem T_over (n : Bool) (a d : ByteArray) : sxEnd Try.prog Rd.no natCon.p 40 50 [.agg #[.bool n, .string a], .string d] =
    bif szB a && szB d then
      bif (gcdF a d).snd != 0 then
        some
          (Ending.panicked
            [{ v := Value.iface 174 (Value.agg { toList := [Value.int IntKind.i64 2] }), recovered := false }])
      else
        bif szB a && szB (gcdF a d).fst then
          bif szB d && szB (gcdF a d).fst then
            bif n then
              some
                (Ending.returned
                  (Value.agg
                    {
                      toList :=
                        [Value.bool !(divF a (gcdF a d).fst).fst.toList == (bs []).toList,
                          Value.string (divF a (gcdF a d).fst).fst, Value.string (divF d (gcdF a d).fst).fst] }))
            else
              some
                (Ending.returned
                  (Value.agg
                    {
                      toList :=
                        [Value.bool false, Value.string (divF a (gcdF a d).fst).fst,
                          Value.string (divF d (gcdF a d).fst).fst] }))
          else none
        else none
    else none := by kernel_rfl

set_option maxRecDepth 100000 in
theorem T_amount (n : Int) : sxEnd Try.prog Rd.no natCon.p 40 49 [.int .i64 n] =
    bif decide (n ≥ 0) then
      bif inI n then
        bif (ofF n).snd != 0 then
          some
            (Ending.panicked
              [{ v := Value.iface 174 (Value.agg { toList := [Value.int IntKind.i64 2] }), recovered := false }])
        else some (Ending.returned (Value.string (ofF n).fst))
      else none
    else
      bif inI (IntKind.i64.wrap (0 - IntKind.i64.wrap (n + 1))) then
        bif (ofF (IntKind.i64.wrap (0 - IntKind.i64.wrap (n + 1)))).snd != 0 then
          some
            (Ending.panicked
              [{ v := Value.iface 174 (Value.agg { toList := [Value.int IntKind.i64 2] }), recovered := false }])
        else
          bif szB (ofF (IntKind.i64.wrap (0 - IntKind.i64.wrap (n + 1)))).fst && szB (bs [1]) then
            bif (addF (ofF (IntKind.i64.wrap (0 - IntKind.i64.wrap (n + 1)))).fst (bs [1])).snd != 0 then
              some
                (Ending.panicked
                  [{ v := Value.iface 174 (Value.agg { toList := [Value.int IntKind.i64 2] }), recovered := false }])
            else
              some
                (Ending.returned
                  (Value.string (addF (ofF (IntKind.i64.wrap (0 - IntKind.i64.wrap (n + 1)))).fst (bs [1])).fst))
          else none
      else none := by kernel_rfl

end Go.Proofs.Ytmcejefeloljiaa

/-
  Package ratios: the table of its inner functions holds.
-/
namespace Go.Proofs.Ytmcejefeloljiaa
open Go.RowKit Nm Go.SX

theorem eqL (s t : ByteArray) : (s.toList == t.toList) = decide (s = t) := by
  by_cases h : s = t
  · subst h; simp
  · rw [decide_eq_false h, beq_eq_false_iff_ne]
    intro he
    apply h
    rw [sdata, sdata] at he
    obtain ⟨⟨l⟩⟩ := s
    obtain ⟨⟨k⟩⟩ := t
    simp at he
    rw [he]
theorem isE_bs (s : ByteArray) : isE s = decide (s = bs []) := by
  unfold isE
  by_cases h : s = bs []
  · subst h; rfl
  · rw [decide_eq_false h]
    apply decide_eq_false
    intro he
    apply h
    obtain ⟨⟨l⟩⟩ := s
    have : l = [] := List.eq_nil_of_length_eq_zero he
    subst this
    rfl
theorem mustO_some {p : ByteArray × Int} {s : ByteArray} (h : mustO p = some s) : p.1 = s ∧ p.2 = 0 := by
  unfold mustO at h
  split at h
  · rename_i h2
    cases h
    exact ⟨rfl, h2⟩
  · cases h
theorem mustO_none {p : ByteArray × Int} (h : mustO p = none) : (p.2 != 0) = true := by
  unfold mustO at h
  split at h
  · cases h
  · rename_i h2
    simpa using h2
theorem sz256 {s : ByteArray} (h : s.size ≤ 256) : szB s = true := szB_iff.2 (Nat.le_trans h (by unfold maxLen; omega))
theorem short_size (n : Nat) : (shortN n).1.size ≤ 256 := by
  unfold shortN
  split
  · assumption
  · exact Nat.zero_le _
theorem gcdF_size (a b : ByteArray) : (gcdF a b).1.size ≤ 256 := by
  unfold gcdF
  split
  · rename_i h
    obtain ⟨n1, n2, s1, s2⟩ := chk2_zero h
    show (encS _).size ≤ 256
    obtain ⟨ea, sA⟩ := natE n1 s1
    obtain ⟨eb, sB⟩ := natE n2 s2
    rw [size_encS]
    by_cases h0 : 0 < nv a
    · exact (sA.mono (Nat.gcd_le_left _ h0))
    · rw [show nv a = 0 by omega, Nat.gcd_zero_left]
      exact sB
  · exact Nat.zero_le _
theorem subF_size (a b : ByteArray) : (subF a b).1.size ≤ 256 := by
  unfold subF
  split
  · rename_i h
    obtain ⟨n1, n2, s1, s2⟩ := chk2_zero h
    obtain ⟨ea, sA⟩ := natE n1 s1
    split
    · exact Nat.zero_le _
    · show (encS _).size ≤ 256
      rw [size_encS]
      exact sA.mono (Nat.sub_le _ _)
  · exact Nat.zero_le _
theorem mulF_size (a b : ByteArray) : (mulF a b).1.size ≤ 256 := by
  unfold mulF
  split
  · exact short_size _
  · exact Nat.zero_le _
theorem addF_size (a b : ByteArray) : (addF a b).1.size ≤ 256 := by
  unfold addF
  split
  · exact short_size _
  · exact Nat.zero_le _

theorem dne (x : Int) : decide (x ≠ 0) = (x != 0) := by cases h : x != 0 <;> simp_all
theorem check_end (n : Bool) (a b : ByteArray) (ha : szB a = true) (hb : szB b = true) : sxEnd Try.prog Rd.no natCon.p 40 22 [.agg #[.bool n, .string a, .string b]] = some (.returned (.int .i64 (checkR ⟨n, a, b⟩))) := by
  rw [T_check, ha, hb]
  unfold checkR badR
  have e1 : (⟨#[1]⟩ : ByteArray) = bs [1] := rfl
  simp only [eqL, isE_bs, cond_true, Bool.and_self, e1, dne]
  generalize (chkN [a] != 0) = x
  generalize (chkN [b] != 0) = y
  generalize hp : decide (b = bs []) = p
  generalize hq : decide (a = bs []) = q
  by_cases hg : (gcdF a b).1 = bs [1] <;> cases x <;> cases y <;> cases p <;> cases n <;> cases q <;> simp [hg]
theorem times_end (a b : ByteArray) (h : (szB a && szB b) = true) : sxEnd Try.prog Rd.no natCon.p 40 70 [.string a, .string b] = some (endS (timesO a b)) := by
  rw [T_times, h]
  unfold timesO
  cases e : mustO (mulF a b) with
  | some s => obtain ⟨h1, h2⟩ := mustO_some e; simp [h1, h2, endS]
  | none => have := mustO_none e; simp only [this, cond_true]; rfl
theorem plus_end (a b : ByteArray) (h : (szB a && szB b) = true) : sxEnd Try.prog Rd.no natCon.p 40 103 [.string a, .string b] = some (endS (plusO a b)) := by
  rw [T_plus, h]
  unfold plusO
  cases e : mustO (addF a b) with
  | some s => obtain ⟨h1, h2⟩ := mustO_some e; simp [h1, h2, endS]
  | none => have := mustO_none e; simp only [this, cond_true]; rfl
def endG (o : Option Sg) : Ending := match o with | some s => .returned (sgV s) | none => .panicked [{ v := .iface 174 (.agg #[.int .i64 2]), recovered := false }]
def endR (o : Option Rt) : Ending := match o with | some s => .returned (rtV s) | none => .panicked [{ v := .iface 174 (.agg #[.int .i64 2]), recovered := false }]
theorem sadd_end (n m : Bool) (a b : ByteArray) (h : (szB a && szB b) = true) : sxEnd Try.prog Rd.no natCon.p 40 155 [.agg #[.bool n, .string a], .agg #[.bool m, .string b]] = some (endG (saddO ⟨n, a⟩ ⟨m, b⟩)) := by
  have h' : (szB b && szB a) = true := by rw [Bool.and_comm]; exact h
  rw [T_sadd, h, h']
  unfold saddO
  by_cases hnm : n = m
  · subst hnm
    simp only [beq_self_eq_true, cond_true, if_true]
    unfold plusO
    cases e : mustO (addF a b) with
    | some s => obtain ⟨h1, h2⟩ := mustO_some e; simp [h1, h2, endG, sgV]
    | none => have := mustO_none e; simp only [this, cond_true]; rfl
  · have hb : (n == m) = false := by simpa using hnm
    rw [hb]
    simp only [cond_false, cond_true]
    rw [if_neg hnm]
    unfold lessB
    cases hl : decide ((cmpF a b).1 < 0) with
    | true =>
      simp only [cond_true, if_true]
      cases e : mustO (subF b a) with
      | some s => obtain ⟨h1, h2⟩ := mustO_some e; simp [h1, h2, endG, sgV]
      | none => have := mustO_none e; simp only [this, cond_true]; rfl
    | false =>
      simp only [cond_false, Bool.false_eq_true, if_false]
      cases e : mustO (subF a b) with
      | some s => obtain ⟨h1, h2⟩ := mustO_some e; simp [h1, h2, endG, sgV]
      | none => have := mustO_none e; simp only [this, cond_true]; rfl
theorem over_end (n : Bool) (a d : ByteArray) (ha : szB a = true) (hd : szB d = true) : sxEnd Try.prog Rd.no natCon.p 40 50 [.agg #[.bool n, .string a], .string d] = some (endR (overO ⟨n, a⟩ d)) := by
  rw [T_over, ha, hd, sz256 (gcdF_size a d)]
  unfold overO
  simp only [Bool.and_self, cond_true, eqL]
  cases e : mustO (gcdF a d) with
  | none => have := mustO_none e; simp only [this, cond_true]; rfl
  | some g =>
    obtain ⟨h1, h2⟩ := mustO_some e
    simp only [h1, h2, Option.map_some, overR, isE_bs, endR, rtV]
    cases n <;> simp
theorem wrapI {x : Int} (h1 : -9223372036854775808 ≤ x) (h2 : x ≤ 9223372036854775807) : IntKind.i64.wrap x = x := by
  rw [IntKind.wrap_i64]
  omega
theorem size_encS' {n : Nat} : ((encS n).size ≤ 256) = Sm n := by rw [size_encS]; rfl
theorem enc_sm {n : Nat} (h : n ≤ 18446744073709551616) : (encS n).size ≤ 256 := by
  rw [size_encS]
  have h9 : (enc n).length ≤ 9 := (enc_length_le n 9).2 (Nat.lt_of_le_of_lt h (by decide +kernel))
  omega
theorem amount_end (n : Int) (h : inI n = true) : sxEnd Try.prog Rd.no natCon.p 40 49 [.int .i64 n] = some (.returned (.string (encS n.natAbs))) := by
  have h0 := h
  unfold inI at h0
  rw [Bool.and_eq_true, decide_eq_true_eq, decide_eq_true_eq] at h0
  rw [T_amount, h]
  by_cases hn : 0 ≤ n
  · have e : ofF n = (encS n.toNat, 0) := if_neg (by omega)
    have e2 : n.toNat = n.natAbs := by omega
    simp [e, hn, e2]
  · have w1 : IntKind.i64.wrap (n + 1) = n + 1 := wrapI (by omega) (by omega)
    have w2 : IntKind.i64.wrap (-(n + 1)) = -(n + 1) := wrapI (by omega) (by omega)
    have e : ofF (-(n + 1)) = (encS (-(n + 1)).toNat, 0) := if_neg (by omega)
    have hi : inI (-(n + 1)) = true := by unfold inI; rw [Bool.and_eq_true, decide_eq_true_eq, decide_eq_true_eq]; omega
    have hlt : (-(n + 1)).toNat ≤ 18446744073709551616 := by omega
    have hz : (0 : Int) - (n + 1) = -(n + 1) := by omega
    have hs := sz256 (enc_sm hlt)
    have h1 : bs [1] = encS 1 := by decide +kernel
    have hadd : addF (encS (-(n + 1)).toNat) (bs [1]) = (encS n.natAbs, 0) := by
      rw [h1]
      have hc : chkN [encS (-(n + 1)).toNat, encS 1] = 0 := chkE2 (by rw [← size_encS'] ; exact enc_sm hlt) (by rw [← size_encS']; decide +kernel)
      unfold addF
      rw [if_pos hc, nv_encS, nv_encS]
      unfold shortN
      rw [show (-(n + 1)).toNat + 1 = n.natAbs by omega, if_pos (enc_sm (by omega))]
    simp only [w1, hz, w2, e, hi, hs, hadd]
    simp [hn, show szB (bs [1]) = true by decide +kernel]

theorem ratCon_ok : EConOk Try.prog ratCon := by
  have base := natCon_ok
  have pl : ∀ {f : FuncId} {vs : List Value} {e0 : Ending}, sxEnd Try.prog Rd.no natCon.p 40 f vs = some e0 → Plain Try.prog f vs e0 := fun h => plain_sound pOk (ECon.ok natCon_ok) 40 h
  intro f h hf
  unfold ratCon at hf
  split at hf
  · cases hf
    refine ⟨⟨_, Try.func22, rfl⟩, fun vs e he => ?_⟩
    simp only at he
    split at he
    · obtain ⟨h1, h2⟩ := R3.need_some he
      cases h2
      rw [Bool.and_eq_true] at h1
      exact ⟨_, rfl, pl (check_end _ _ _ h1.1 h1.2)⟩
    · cases he
  · cases hf
    refine ⟨⟨_, Try.func70, rfl⟩, fun vs e he => ?_⟩
    simp only at he
    split at he
    · rename_i a b
      obtain ⟨h1, h2⟩ := R3.need_some he
      have h3 := times_end a b h1
      cases ho : timesO a b with
      | some s => rw [ho] at h2 h3; cases h2; exact ⟨_, rfl, pl h3⟩
      | none => rw [ho] at h2 h3; cases h2; exact ⟨_, rfl, pl h3⟩
    · cases he
  · cases hf
    refine ⟨⟨_, Try.func103, rfl⟩, fun vs e he => ?_⟩
    simp only at he
    split at he
    · rename_i a b
      obtain ⟨h1, h2⟩ := R3.need_some he
      have h3 := plus_end a b h1
      cases ho : plusO a b with
      | some s => rw [ho] at h2 h3; cases h2; exact ⟨_, rfl, pl h3⟩
      | none => rw [ho] at h2 h3; cases h2; exact ⟨_, rfl, pl h3⟩
    · cases he
  · cases hf
    refine ⟨⟨_, Try.func155, rfl⟩, fun vs e he => ?_⟩
    simp only at he
    split at he
    · rename_i n a m b
      obtain ⟨h1, h2⟩ := R3.need_some he
      have h3 := sadd_end n m a b h1
      cases ho : saddO ⟨n, a⟩ ⟨m, b⟩ with
      | some s => rw [ho] at h2 h3; cases h2; exact ⟨_, rfl, pl h3⟩
      | none => rw [ho] at h2 h3; cases h2; exact ⟨_, rfl, pl h3⟩
    · cases he
  · cases hf
    refine ⟨⟨_, Try.func50, rfl⟩, fun vs e he => ?_⟩
    simp only at he
    split at he
    · rename_i n a d
      obtain ⟨h1, h2⟩ := R3.need_some he
      rw [Bool.and_eq_true] at h1
      have h3 := over_end n a d h1.1 h1.2
      cases ho : overO ⟨n, a⟩ d with
      | some s => rw [ho] at h2 h3; cases h2; exact ⟨_, rfl, pl h3⟩
      | none => rw [ho] at h2 h3; cases h2; exact ⟨_, rfl, pl h3⟩
    · cases he
  · cases hf
    refine ⟨⟨_, Try.func49, rfl⟩, fun vs e he => ?_⟩
    simp only at he
    split at he
    · obtain ⟨h1, h2⟩ := R3.need_some he
      cases h2
      exact ⟨_, rfl, pl (amount_end _ h1)⟩
    · cases he
  · exact base _ _ hf

end Go.Proofs.Ytmcejefeloljiaa

/-
  What the symbolic executor shows of the functions of package ratios.
-/
namespace Go.Proofs.Ytmcejefeloljiaa
open Go.RowKit Nm Go.SX

set_option maxRecDepth 100000 in
theorem T_new (n d : Int) : sxEnd Try.prog Rd.no ratCon.p 40 14 [.int .i64 n, .int .i64 d] =
    bif d == 0 then
      some
        (Ending.returned
          (Value.tuple
            {
              toList :=
                [Value.agg { toList := [Value.bool false, Value.string (bs []), Value.string (bs [])] },
                  Value.int IntKind.i64 71] }))
    else
      bif inI n then
        bif inI d then
          bif szB (encS n.natAbs) && szB (encS d.natAbs) then
            bif (overO { neg := !decide (n < 0) == decide (d < 0), n := encS n.natAbs } (encS d.natAbs)).isSome then
              some
                (Ending.returned
                  (Value.tuple
                    {
                      toList :=
                        [Value.agg
                            {
                              toList :=
                                [Value.bool
                                    ((overO { neg := !decide (n < 0) == decide (d < 0), n := encS n.natAbs }
                                            (encS d.natAbs)).getD
                                        zR).neg,
                                  Value.string
                                    ((overO { neg := !decide (n < 0) == decide (d < 0), n := encS n.natAbs }
                                            (encS d.natAbs)).getD
                                        zR).n,
                                  Value.string
                                    ((overO { neg := !decide (n < 0) == decide (d < 0), n := encS n.natAbs }
                                            (encS d.natAbs)).getD
                                        zR).d] },
                          Value.int IntKind.i64 0] }))
            else
              some
                (Ending.panicked
                  [{ v := Value.iface 174 (Value.agg { toList := [Value.int IntKind.i64 2] }), recovered := false }])
          else none
        else none
      else none := by kernel_rfl

set_option maxRecDepth 100000 in
theorem T_add (n m : Bool) (a b c d : ByteArray) : sxEnd Try.prog Rd.no ratCon.p 40 24 [.agg #[.bool n, .string a, .string b], .agg #[.bool m, .string c, .string d]] =
    bif szB a && szB b then
      bif checkR { neg := n, n := a, d := b } != 0 then
        bif checkR { neg := n, n := a, d := b } != 0 then
          some
            (Ending.returned
              (Value.tuple
                {
                  toList :=
                    [Value.agg { toList := [Value.bool false, Value.string (bs []), Value.string (bs [])] },
                      Value.int IntKind.i64 (checkR { neg := n, n := a, d := b })] }))
        else
          some
            (Ending.returned
              (Value.tuple
                {
                  toList :=
                    [Value.agg { toList := [Value.bool false, Value.string (bs []), Value.string (bs [])] },
                      Value.int IntKind.i64 (checkR { neg := n, n := a, d := b })] }))
      else
        bif szB c && szB d then
          bif checkR { neg := m, n := c, d := d } != 0 then
            bif checkR { neg := m, n := c, d := d } != 0 then
              some
                (Ending.returned
                  (Value.tuple
                    {
                      toList :=
                        [Value.agg
                            { toList := [Value.bool false, Value.string (bs []), Value.string (bs [])] },
                          Value.int IntKind.i64 (checkR { neg := m, n := c, d := d })] }))
            else
              some
                (Ending.returned
                  (Value.tuple
                    {
                      toList :=
                        [Value.agg
                            { toList := [Value.bool false, Value.string (bs []), Value.string (bs [])] },
                          Value.int IntKind.i64 (checkR { neg := m, n := c, d := d })] }))
          else
            bif szB b && szB d then
              bif (timesO b d).isSome then
                bif szB a && szB d then
                  bif (timesO a d).isSome then
                    bif szB c && szB b then
                      bif (timesO c b).isSome then
                        bif szB ((timesO a d).getD (bs [])) && szB ((timesO c b).getD (bs [])) then
                          bif
                              (saddO { neg := n, n := (timesO a d).getD (bs []) }
                                  { neg := m, n := (timesO c b).getD (bs []) }).isSome then
                            bif
                                szB
                                    ((saddO { neg := n, n := (timesO a d).getD (bs []) }
                                            { neg := m, n := (timesO c b).getD (bs []) }).getD
                                        { neg := false, n := (bs []) }).n &&
                                  szB ((timesO b d).getD (bs [])) then
                              bif
                                  (overO
                                      {
                                        neg :=
                                          ((saddO { neg := n, n := (timesO a d).getD (bs []) }
                                                  { neg := m, n := (timesO c b).getD (bs []) }).getD
                                              { neg := false, n := (bs []) }).neg,
                                        n :=
                                          ((saddO { neg := n, n := (timesO a d).getD (bs []) }
                                                  { neg := m, n := (timesO c b).getD (bs []) }).getD
                                              { neg := false, n := (bs []) }).n }
                                      ((timesO b d).getD (bs []))).isSome then
                                some
                                  (Ending.returned
                                    (Value.tuple
                                      {
                                        toList :=
                                          [Value.agg
                                              {
                                                toList :=
                                                  [Value.bool
                                                      ((overO
                                                              {
                                                                neg :=
                                                                  ((saddO
                                                                          { neg := n,
                                                                            n := (timesO a d).getD (bs []) }
                                                                          { neg := m,
                                                                            n := (timesO c b).getD (bs []) }).getD
                                                                      { neg := false, n := (bs []) }).neg,
                                                                n :=
                                                                  ((saddO
                                                                          { neg := n,
                                                                            n := (timesO a d).getD (bs []) }
                                                                          { neg := m,
                                                                            n := (timesO c b).getD (bs []) }).getD
                                                                      { neg := false, n := (bs []) }).n }
                                                              ((timesO b d).getD (bs []))).getD
                                                          zR).neg,
                                                    Value.string
                                                      ((overO
                                                              {
                                                                neg :=
                                                                  ((saddO
                                                                          { neg := n,
                                                                            n := (timesO a d).getD (bs []) }
                                                                          { neg := m,
                                                                            n := (timesO c b).getD (bs []) }).getD
                                                                      { neg := false, n := (bs []) }).neg,
                                                                n :=
                                                                  ((saddO
                                                                          { neg := n,
                                                                            n := (timesO a d).getD (bs []) }
                                                                          { neg := m,
                                                                            n := (timesO c b).getD (bs []) }).getD
                                                                      { neg := false, n := (bs []) }).n }
                                                              ((timesO b d).getD (bs []))).getD
                                                          zR).n,
                                                    Value.string
                                                      ((overO
                                                              {
                                                                neg :=
                                                                  ((saddO
                                                                          { neg := n,
                                                                            n := (timesO a d).getD (bs []) }
                                                                          { neg := m,
                                                                            n := (timesO c b).getD (bs []) }).getD
                                                                      { neg := false, n := (bs []) }).neg,
                                                                n :=
                                                                  ((saddO
                                                                          { neg := n,
                                                                            n := (timesO a d).getD (bs []) }
                                                                          { neg := m,
                                                                            n := (timesO c b).getD (bs []) }).getD
                                                                      { neg := false, n := (bs []) }).n }
                                                              ((timesO b d).getD (bs []))).getD
                                                          zR).d] },
                                            Value.int IntKind.i64 0] }))
                              else
                                some
                                  (Ending.returned
                                    (Value.tuple
                                      {
                                        toList :=
                                          [Value.agg
                                              {
                                                toList :=
                                                  [Value.bool false, Value.string (bs []),
                                                    Value.string (bs [])] },
                                            Value.int IntKind.i64 2] }))
                            else none
                          else
                            some
                              (Ending.returned
                                (Value.tuple
                                  {
                                    toList :=
                                      [Value.agg
                                          {
                                            toList :=
                                              [Value.bool false, Value.string (bs []),
                                                Value.string (bs [])] },
                                        Value.int IntKind.i64 2] }))
                        else none
                      else
                        some
                          (Ending.returned
                            (Value.tuple
                              {
                                toList :=
                                  [Value.agg
                                      {
                                        toList :=
                                          [Value.bool false, Value.string (bs []), Value.string (bs [])] },
                                    Value.int IntKind.i64 2] }))
                    else none
                  else
                    some
                      (Ending.returned
                        (Value.tuple
                          {
                            toList :=
                              [Value.agg
                                  {
                                    toList :=
                                      [Value.bool false, Value.string (bs []), Value.string (bs [])] },
                                Value.int IntKind.i64 2] }))
                else none
              else
                some
                  (Ending.returned
                    (Value.tuple
                      {
                        toList :=
                          [Value.agg
                              { toList := [Value.bool false, Value.string (bs []), Value.string (bs [])] },
                            Value.int IntKind.i64 2] }))
            else none
        else none
    else none := by kernel_rfl

set_option maxRecDepth 100000 in
theorem T_sub (n m : Bool) (a b c d : ByteArray) : sxEnd Try.prog Rd.no ratCon.p 40 26 [.agg #[.bool n, .string a, .string b], .agg #[.bool m, .string c, .string d]] =
    bif szB a && szB b then
      bif checkR { neg := n, n := a, d := b } != 0 then
        bif checkR { neg := n, n := a, d := b } != 0 then
          some
            (Ending.returned
              (Value.tuple
                {
                  toList :=
                    [Value.agg { toList := [Value.bool false, Value.string (bs []), Value.string (bs [])] },
                      Value.int IntKind.i64 (checkR { neg := n, n := a, d := b })] }))
        else
          some
            (Ending.returned
              (Value.tuple
                {
                  toList :=
                    [Value.agg { toList := [Value.bool false, Value.string (bs []), Value.string (bs [])] },
                      Value.int IntKind.i64 (checkR { neg := n, n := a, d := b })] }))
      else
        bif szB c && szB d then
          bif checkR { neg := m, n := c, d := d } != 0 then
            bif checkR { neg := m, n := c, d := d } != 0 then
              some
                (Ending.returned
                  (Value.tuple
                    {
                      toList :=
                        [Value.agg
                            { toList := [Value.bool false, Value.string (bs []), Value.string (bs [])] },
                          Value.int IntKind.i64 (checkR { neg := m, n := c, d := d })] }))
            else
              some
                (Ending.returned
                  (Value.tuple
                    {
                      toList :=
                        [Value.agg
                            { toList := [Value.bool false, Value.string (bs []), Value.string (bs [])] },
                          Value.int IntKind.i64 (checkR { neg := m, n := c, d := d })] }))
          else
            bif !m then
              bif szB b && szB d then
                bif (timesO b d).isSome then
                  bif szB a && szB d then
                    bif (timesO a d).isSome then
                      bif szB c && szB b then
                        bif (timesO c b).isSome then
                          bif szB ((timesO a d).getD (bs [])) && szB ((timesO c b).getD (bs [])) then
                            bif
                                (saddO { neg := n, n := (timesO a d).getD (bs []) }
                                    { neg := !c.toList == (bs []).toList,
                                      n := (timesO c b).getD (bs []) }).isSome then
                              bif
                                  szB
                                      ((saddO { neg := n, n := (timesO a d).getD (bs []) }
                                              { neg := !c.toList == (bs []).toList,
                                                n := (timesO c b).getD (bs []) }).getD
                                          { neg := false, n := (bs []) }).n &&
                                    szB ((timesO b d).getD (bs [])) then
                                bif
                                    (overO
                                        {
                                          neg :=
                                            ((saddO { neg := n, n := (timesO a d).getD (bs []) }
                                                    { neg := !c.toList == (bs []).toList,
                                                      n := (timesO c b).getD (bs []) }).getD
                                                { neg := false, n := (bs []) }).neg,
                                          n :=
                                            ((saddO { neg := n, n := (timesO a d).getD (bs []) }
                                                    { neg := !c.toList == (bs []).toList,
                                                      n := (timesO c b).getD (bs []) }).getD
                                                { neg := false, n := (bs []) }).n }
                                        ((timesO b d).getD (bs []))).isSome then
                                  some
                                    (Ending.returned
                                      (Value.tuple
                                        {
                                          toList :=
                                            [Value.agg
                                                {
                                                  toList :=
                                                    [Value.bool
                                                        ((overO
                                                                {
                                                                  neg :=
                                                                    ((saddO
                                                                            { neg := n,
                                                                              n := (timesO a d).getD (bs []) }
                                                                            { neg := !c.toList == (bs []).toList,
                                                                              n := (timesO c b).getD (bs []) }).getD
                                                                        { neg := false, n := (bs []) }).neg,
                                                                  n :=
                                                                    ((saddO
                                                                            { neg := n,
                                                                              n := (timesO a d).getD (bs []) }
                                                                            { neg := !c.toList == (bs []).toList,
                                                                              n := (timesO c b).getD (bs []) }).getD
                                                                        { neg := false, n := (bs []) }).n }
                                                                ((timesO b d).getD (bs []))).getD
                                                            zR).neg,
                                                      Value.string
                                                        ((overO
                                                                {
                                                                  neg :=
                                                                    ((saddO
                                                                            { neg := n,
                                                                              n := (timesO a d).getD (bs []) }
                                                                            {
                                                                              neg :=
                                                                                bif true then
                                                                                  !c.toList == (bs []).toList
                                                                                else false,
                                                                              n := (timesO c b).getD (bs []) }).getD
                                                                        { neg := false, n := (bs []) }).neg,
                                                                  n :=
                                                                    ((saddO
                                                                            { neg := n,
                                                                              n := (timesO a d).getD (bs []) }
                                                                            {
                                                                              neg :=
                                                                                bif true then
                                                                                  !c.toList == (bs []).toList
                                                                                else false,
                                                                              n := (timesO c b).getD (bs []) }).getD
                                                                        { neg := false, n := (bs []) }).n }
                                                                ((timesO b d).getD (bs []))).getD
                                                            zR).n,
                                                      Value.string
                                                        ((overO
                                                                {
                                                                  neg :=
                                                                    ((saddO
                                                                            { neg := n,
                                                                              n := (timesO a d).getD (bs []) }
                                                                            {
                                                                              neg :=
                                                                                bif true then
                                                                                  !c.toList == (bs []).toList
                                                                                else false,
                                                                              n := (timesO c b).getD (bs []) }).getD
                                                                        { neg := false, n := (bs []) }).neg,
                                                                  n :=
                                                                    ((saddO
                                                                            { neg := n,
                                                                              n := (timesO a d).getD (bs []) }
                                                                            {
                                                                              neg :=
                                                                                bif true then
                                                                                  !c.toList == (bs []).toList
                                                                                else false,
                                                                              n := (timesO c b).getD (bs []) }).getD
                                                                        { neg := false, n := (bs []) }).n }
                                                                ((timesO b d).getD (bs []))).getD
                                                            zR).d] },
                                              Value.int IntKind.i64 0] }))
                                else
                                  some
                                    (Ending.returned
                                      (Value.tuple
                                        {
                                          toList :=
                                            [Value.agg
                                                {
                                                  toList :=
                                                    [Value.bool false, Value.string (bs []),
                                                      Value.string (bs [])] },
                                              Value.int IntKind.i64 2] }))
                              else none
                            else
                              some
                                (Ending.returned
                                  (Value.tuple
                                    {
                                      toList :=
                                        [Value.agg
                                            {
                                              toList :=
                                                [Value.bool false, Value.string (bs []),
                                                  Value.string (bs [])] },
                                          Value.int IntKind.i64 2] }))
                          else none
                        else
                          some
                            (Ending.returned
                              (Value.tuple
                                {
                                  toList :=
                                    [Value.agg
                                        {
                                          toList :=
                                            [Value.bool false, Value.string (bs []),
                                              Value.string (bs [])] },
                                      Value.int IntKind.i64 2] }))
                      else none
                    else
                      some
                        (Ending.returned
                          (Value.tuple
                            {
                              toList :=
                                [Value.agg
                                    {
                                      toList :=
                                        [Value.bool false, Value.string (bs []), Value.string (bs [])] },
                                  Value.int IntKind.i64 2] }))
                  else none
                else
                  some
                    (Ending.returned
                      (Value.tuple
                        {
                          toList :=
                            [Value.agg
                                {
                                  toList :=
                                    [Value.bool false, Value.string (bs []), Value.string (bs [])] },
                              Value.int IntKind.i64 2] }))
              else none
            else
              bif szB b && szB d then
                bif (timesO b d).isSome then
                  bif szB a && szB d then
                    bif (timesO a d).isSome then
                      bif szB c && szB b then
                        bif (timesO c b).isSome then
                          bif szB ((timesO a d).getD (bs [])) && szB ((timesO c b).getD (bs [])) then
                            bif
                                (saddO { neg := n, n := (timesO a d).getD (bs []) }
                                    { neg := false, n := (timesO c b).getD (bs []) }).isSome then
                              bif
                                  szB
                                      ((saddO { neg := n, n := (timesO a d).getD (bs []) }
                                              { neg := false, n := (timesO c b).getD (bs []) }).getD
                                          { neg := false, n := (bs []) }).n &&
                                    szB ((timesO b d).getD (bs [])) then
                                bif
                                    (overO
                                        {
                                          neg :=
                                            ((saddO { neg := n, n := (timesO a d).getD (bs []) }
                                                    { neg := false, n := (timesO c b).getD (bs []) }).getD
                                                { neg := false, n := (bs []) }).neg,
                                          n :=
                                            ((saddO { neg := n, n := (timesO a d).getD (bs []) }
                                                    { neg := false, n := (timesO c b).getD (bs []) }).getD
                                                { neg := false, n := (bs []) }).n }
                                        ((timesO b d).getD (bs []))).isSome then
                                  some
                                    (Ending.returned
                                      (Value.tuple
                                        {
                                          toList :=
                                            [Value.agg
                                                {
                                                  toList :=
                                                    [Value.bool
                                                        ((overO
                                                                {
                                                                  neg :=
                                                                    ((saddO
                                                                            { neg := n,
                                                                              n := (timesO a d).getD (bs []) }
                                                                            { neg := false,
                                                                              n := (timesO c b).getD (bs []) }).getD
                                                                        { neg := false, n := (bs []) }).neg,
                                                                  n :=
                                                                    ((saddO
                                                                            { neg := n,
                                                                              n := (timesO a d).getD (bs []) }
                                                                            { neg := false,
                                                                              n := (timesO c b).getD (bs []) }).getD
                                                                        { neg := false, n := (bs []) }).n }
                                                                ((timesO b d).getD (bs []))).getD
                                                            zR).neg,
                                                      Value.string
                                                        ((overO
                                                                {
                                                                  neg :=
                                                                    ((saddO
                                                                            { neg := n,
                                                                              n := (timesO a d).getD (bs []) }
                                                                            { neg := false,
                                                                              n := (timesO c b).getD (bs []) }).getD
                                                                        { neg := false, n := (bs []) }).neg,
                                                                  n :=
                                                                    ((saddO
                                                                            { neg := n,
                                                                              n := (timesO a d).getD (bs []) }
                                                                            { neg := false,
                                                                              n := (timesO c b).getD (bs []) }).getD
                                                                        { neg := false, n := (bs []) }).n }
                                                                ((timesO b d).getD (bs []))).getD
                                                            zR).n,
                                                      Value.string
                                                        ((overO
                                                                {
                                                                  neg :=
                                                                    ((saddO
                                                                            { neg := n,
                                                                              n := (timesO a d).getD (bs []) }
                                                                            { neg := false,
                                                                              n := (timesO c b).getD (bs []) }).getD
                                                                        { neg := false, n := (bs []) }).neg,
                                                                  n :=
                                                                    ((saddO
                                                                            { neg := n,
                                                                              n := (timesO a d).getD (bs []) }
                                                                            { neg := false,
                                                                              n := (timesO c b).getD (bs []) }).getD
                                                                        { neg := false, n := (bs []) }).n }
                                                                ((timesO b d).getD (bs []))).getD
                                                            zR).d] },
                                              Value.int IntKind.i64 0] }))
                                else
                                  some
                                    (Ending.returned
                                      (Value.tuple
                                        {
                                          toList :=
                                            [Value.agg
                                                {
                                                  toList :=
                                                    [Value.bool false, Value.string (bs []),
                                                      Value.string (bs [])] },
                                              Value.int IntKind.i64 2] }))
                              else none
                            else
                              some
                                (Ending.returned
                                  (Value.tuple
                                    {
                                      toList :=
                                        [Value.agg
                                            {
                                              toList :=
                                                [Value.bool false, Value.string (bs []),
                                                  Value.string (bs [])] },
                                          Value.int IntKind.i64 2] }))
                          else none
                        else
                          some
                            (Ending.returned
                              (Value.tuple
                                {
                                  toList :=
                                    [Value.agg
                                        {
                                          toList :=
                                            [Value.bool false, Value.string (bs []),
                                              Value.string (bs [])] },
                                      Value.int IntKind.i64 2] }))
                      else none
                    else
                      some
                        (Ending.returned
                          (Value.tuple
                            {
                              toList :=
                                [Value.agg
                                    {
                                      toList :=
                                        [Value.bool false, Value.string (bs []), Value.string (bs [])] },
                                  Value.int IntKind.i64 2] }))
                  else none
                else
                  some
                    (Ending.returned
                      (Value.tuple
                        {
                          toList :=
                            [Value.agg
                                {
                                  toList :=
                                    [Value.bool false, Value.string (bs []), Value.string (bs [])] },
                              Value.int IntKind.i64 2] }))
              else none
        else none
    else none := by kernel_rfl

set_option maxRecDepth 100000 in
theorem T_mul (n m : Bool) (a b c d : ByteArray) : sxEnd Try.prog Rd.no ratCon.p 40 28 [.agg #[.bool n, .string a, .string b], .agg #[.bool m, .string c, .string d]] =
    bif szB a && szB b then
      bif checkR { neg := n, n := a, d := b } != 0 then
        bif checkR { neg := n, n := a, d := b } != 0 then
          some
            (Ending.returned
              (Value.tuple
                {
                  toList :=
                    [Value.agg { toList := [Value.bool false, Value.string (bs []), Value.string (bs [])] },
                      Value.int IntKind.i64 (checkR { neg := n, n := a, d := b })] }))
        else
          some
            (Ending.returned
              (Value.tuple
                {
                  toList :=
                    [Value.agg { toList := [Value.bool false, Value.string (bs []), Value.string (bs [])] },
                      Value.int IntKind.i64 (checkR { neg := n, n := a, d := b })] }))
      else
        bif szB c && szB d then
          bif checkR { neg := m, n := c, d := d } != 0 then
            bif checkR { neg := m, n := c, d := d } != 0 then
              some
                (Ending.returned
                  (Value.tuple
                    {
                      toList :=
                        [Value.agg
                            { toList := [Value.bool false, Value.string (bs []), Value.string (bs [])] },
                          Value.int IntKind.i64 (checkR { neg := m, n := c, d := d })] }))
            else
              some
                (Ending.returned
                  (Value.tuple
                    {
                      toList :=
                        [Value.agg
                            { toList := [Value.bool false, Value.string (bs []), Value.string (bs [])] },
                          Value.int IntKind.i64 (checkR { neg := m, n := c, d := d })] }))
          else
            bif szB a && szB c then
              bif (timesO a c).isSome then
                bif szB b && szB d then
                  bif (timesO b d).isSome then
                    bif szB ((timesO a c).getD (bs [])) && szB ((timesO b d).getD (bs [])) then
                      bif
                          (overO { neg := !n == m, n := (timesO a c).getD (bs []) }
                              ((timesO b d).getD (bs []))).isSome then
                        some
                          (Ending.returned
                            (Value.tuple
                              {
                                toList :=
                                  [Value.agg
                                      {
                                        toList :=
                                          [Value.bool
                                              ((overO { neg := !n == m, n := (timesO a c).getD (bs []) }
                                                      ((timesO b d).getD (bs []))).getD
                                                  zR).neg,
                                            Value.string
                                              ((overO { neg := !n == m, n := (timesO a c).getD (bs []) }
                                                      ((timesO b d).getD (bs []))).getD
                                                  zR).n,
                                            Value.string
                                              ((overO { neg := !n == m, n := (timesO a c).getD (bs []) }
                                                      ((timesO b d).getD (bs []))).getD
                                                  zR).d] },
                                    Value.int IntKind.i64 0] }))
                      else
                        some
                          (Ending.returned
                            (Value.tuple
                              {
                                toList :=
                                  [Value.agg
                                      {
                                        toList :=
                                          [Value.bool false, Value.string (bs []), Value.string (bs [])] },
                                    Value.int IntKind.i64 2] }))
                    else none
                  else
                    some
                      (Ending.returned
                        (Value.tuple
                          {
                            toList :=
                              [Value.agg
                                  {
                                    toList :=
                                      [Value.bool false, Value.string (bs []), Value.string (bs [])] },
                                Value.int IntKind.i64 2] }))
                else none
              else
                some
                  (Ending.returned
                    (Value.tuple
                      {
                        toList :=
                          [Value.agg
                              { toList := [Value.bool false, Value.string (bs []), Value.string (bs [])] },
                            Value.int IntKind.i64 2] }))
            else none
        else none
    else none := by kernel_rfl

set_option maxRecDepth 100000 in
theorem T_div (n m : Bool) (a b c d : ByteArray) : sxEnd Try.prog Rd.no ratCon.p 40 30 [.agg #[.bool n, .string a, .string b], .agg #[.bool m, .string c, .string d]] =
    bif szB a && szB b then
      bif checkR { neg := n, n := a, d := b } != 0 then
        bif checkR { neg := n, n := a, d := b } != 0 then
          some
            (Ending.returned
              (Value.tuple
                {
                  toList :=
                    [Value.agg { toList := [Value.bool false, Value.string (bs []), Value.string (bs [])] },
                      Value.int IntKind.i64 (checkR { neg := n, n := a, d := b })] }))
        else
          some
            (Ending.returned
              (Value.tuple
                {
                  toList :=
                    [Value.agg { toList := [Value.bool false, Value.string (bs []), Value.string (bs [])] },
                      Value.int IntKind.i64 (checkR { neg := n, n := a, d := b })] }))
      else
        bif szB c && szB d then
          bif checkR { neg := m, n := c, d := d } != 0 then
            bif checkR { neg := m, n := c, d := d } != 0 then
              some
                (Ending.returned
                  (Value.tuple
                    {
                      toList :=
                        [Value.agg
                            { toList := [Value.bool false, Value.string (bs []), Value.string (bs [])] },
                          Value.int IntKind.i64 (checkR { neg := m, n := c, d := d })] }))
            else
              some
                (Ending.returned
                  (Value.tuple
                    {
                      toList :=
                        [Value.agg
                            { toList := [Value.bool false, Value.string (bs []), Value.string (bs [])] },
                          Value.int IntKind.i64 (checkR { neg := m, n := c, d := d })] }))
          else
            bif c.toList == (bs []).toList then
              some
                (Ending.returned
                  (Value.tuple
                    {
                      toList :=
                        [Value.agg
                            { toList := [Value.bool false, Value.string (bs []), Value.string (bs [])] },
                          Value.int IntKind.i64 71] }))
            else
              bif szB a && szB d then
                bif (timesO a d).isSome then
                  bif szB b && szB c then
                    bif (timesO b c).isSome then
                      bif szB ((timesO a d).getD (bs [])) && szB ((timesO b c).getD (bs [])) then
                        bif
                            (overO { neg := !n == m, n := (timesO a d).getD (bs []) }
                                ((timesO b c).getD (bs []))).isSome then
                          some
                            (Ending.returned
                              (Value.tuple
                                {
                                  toList :=
                                    [Value.agg
                                        {
                                          toList :=
                                            [Value.bool
                                                ((overO { neg := !n == m, n := (timesO a d).getD (bs []) }
                                                        ((timesO b c).getD (bs []))).getD
                                                    zR).neg,
                                              Value.string
                                                ((overO { neg := !n == m, n := (timesO a d).getD (bs []) }
                                                        ((timesO b c).getD (bs []))).getD
                                                    zR).n,
                                              Value.string
                                                ((overO { neg := !n == m, n := (timesO a d).getD (bs []) }
                                                        ((timesO b c).getD (bs []))).getD
                                                    zR).d] },
                                      Value.int IntKind.i64 0] }))
                        else
                          some
                            (Ending.returned
                              (Value.tuple
                                {
                                  toList :=
                                    [Value.agg
                                        {
                                          toList :=
                                            [Value.bool false, Value.string (bs []),
                                              Value.string (bs [])] },
                                      Value.int IntKind.i64 2] }))
                      else none
                    else
                      some
                        (Ending.returned
                          (Value.tuple
                            {
                              toList :=
                                [Value.agg
                                    {
                                      toList :=
                                        [Value.bool false, Value.string (bs []), Value.string (bs [])] },
                                  Value.int IntKind.i64 2] }))
                  else none
                else
                  some
                    (Ending.returned
                      (Value.tuple
                        {
                          toList :=
                            [Value.agg
                                {
                                  toList :=
                                    [Value.bool false, Value.string (bs []), Value.string (bs [])] },
                              Value.int IntKind.i64 2] }))
              else none
        else none
    else none := by kernel_rfl

set_option maxRecDepth 100000 in
theorem T_cmp (n m : Bool) (a b c d : ByteArray) : sxEnd Try.prog Rd.no ratCon.p 40 32 [.agg #[.bool n, .string a, .string b], .agg #[.bool m, .string c, .string d]] =
    bif szB a && szB b then
      bif checkR { neg := n, n := a, d := b } != 0 then
        some
          (Ending.returned
            (Value.tuple
              { toList := [Value.int IntKind.i64 0, Value.int IntKind.i64 (checkR { neg := n, n := a, d := b })] }))
      else
        bif szB c && szB d then
          bif checkR { neg := m, n := c, d := d } != 0 then
            some
              (Ending.returned
                (Value.tuple
                  { toList := [Value.int IntKind.i64 0, Value.int IntKind.i64 (checkR { neg := m, n := c, d := d })] }))
          else
            bif szB a && szB d then
              bif (timesO a d).isSome then
                bif szB c && szB b then
                  bif (timesO c b).isSome then
                    bif n == m && ((timesO a d).getD (bs []) == (timesO c b).getD (bs []) && true) then
                      some (Ending.returned (Value.tuple { toList := [Value.int IntKind.i64 0, Value.int IntKind.i64 0] }))
                    else
                      bif !n == m then
                        bif n then
                          some
                            (Ending.returned
                              (Value.tuple { toList := [Value.int IntKind.i64 (-1), Value.int IntKind.i64 0] }))
                        else
                          bif n then
                            bif szB ((timesO c b).getD (bs [])) && szB ((timesO a d).getD (bs [])) then
                              bif
                                  decide
                                    ((cmpF ((timesO c b).getD (bs [])) ((timesO a d).getD (bs []))).fst <
                                      0) then
                                some
                                  (Ending.returned
                                    (Value.tuple { toList := [Value.int IntKind.i64 (-1), Value.int IntKind.i64 0] }))
                              else
                                bif !n then
                                  bif !m then
                                    bif
                                        szB ((timesO a d).getD (bs [])) &&
                                          szB ((timesO c b).getD (bs [])) then
                                      bif
                                          decide
                                            ((cmpF ((timesO a d).getD (bs []))
                                                  ((timesO c b).getD (bs []))).fst <
                                              0) then
                                        some
                                          (Ending.returned
                                            (Value.tuple
                                              { toList := [Value.int IntKind.i64 (-1), Value.int IntKind.i64 0] }))
                                      else
                                        some
                                          (Ending.returned
                                            (Value.tuple { toList := [Value.int IntKind.i64 1, Value.int IntKind.i64 0] }))
                                    else none
                                  else
                                    some
                                      (Ending.returned
                                        (Value.tuple { toList := [Value.int IntKind.i64 1, Value.int IntKind.i64 0] }))
                                else
                                  some
                                    (Ending.returned
                                      (Value.tuple { toList := [Value.int IntKind.i64 1, Value.int IntKind.i64 0] }))
                            else none
                          else
                            bif !n then
                              bif !m then
                                bif szB ((timesO a d).getD (bs [])) && szB ((timesO c b).getD (bs [])) then
                                  bif
                                      decide
                                        ((cmpF ((timesO a d).getD (bs []))
                                              ((timesO c b).getD (bs []))).fst <
                                          0) then
                                    some
                                      (Ending.returned
                                        (Value.tuple { toList := [Value.int IntKind.i64 (-1), Value.int IntKind.i64 0] }))
                                  else
                                    some
                                      (Ending.returned
                                        (Value.tuple { toList := [Value.int IntKind.i64 1, Value.int IntKind.i64 0] }))
                                else none
                              else
                                some
                                  (Ending.returned
                                    (Value.tuple { toList := [Value.int IntKind.i64 1, Value.int IntKind.i64 0] }))
                            else
                              some
                                (Ending.returned
                                  (Value.tuple { toList := [Value.int IntKind.i64 1, Value.int IntKind.i64 0] }))
                      else
                        bif n then
                          bif szB ((timesO c b).getD (bs [])) && szB ((timesO a d).getD (bs [])) then
                            bif
                                decide
                                  ((cmpF ((timesO c b).getD (bs [])) ((timesO a d).getD (bs []))).fst <
                                    0) then
                              some
                                (Ending.returned
                                  (Value.tuple { toList := [Value.int IntKind.i64 (-1), Value.int IntKind.i64 0] }))
                            else
                              bif !n then
                                bif !m then
                                  bif
                                      szB ((timesO a d).getD (bs [])) &&
                                        szB ((timesO c b).getD (bs [])) then
                                    bif
                                        decide
                                          ((cmpF ((timesO a d).getD (bs []))
                                                ((timesO c b).getD (bs []))).fst <
                                            0) then
                                      some
                                        (Ending.returned
                                          (Value.tuple { toList := [Value.int IntKind.i64 (-1), Value.int IntKind.i64 0] }))
                                    else
                                      some
                                        (Ending.returned
                                          (Value.tuple { toList := [Value.int IntKind.i64 1, Value.int IntKind.i64 0] }))
                                  else none
                                else
                                  some
                                    (Ending.returned
                                      (Value.tuple { toList := [Value.int IntKind.i64 1, Value.int IntKind.i64 0] }))
                              else
                                some
                                  (Ending.returned
                                    (Value.tuple { toList := [Value.int IntKind.i64 1, Value.int IntKind.i64 0] }))
                          else none
                        else
                          bif !n then
                            bif !m then
                              bif szB ((timesO a d).getD (bs [])) && szB ((timesO c b).getD (bs [])) then
                                bif
                                    decide
                                      ((cmpF ((timesO a d).getD (bs [])) ((timesO c b).getD (bs []))).fst <
                                        0) then
                                  some
                                    (Ending.returned
                                      (Value.tuple { toList := [Value.int IntKind.i64 (-1), Value.int IntKind.i64 0] }))
                                else
                                  some
                                    (Ending.returned
                                      (Value.tuple { toList := [Value.int IntKind.i64 1, Value.int IntKind.i64 0] }))
                              else none
                            else
                              some
                                (Ending.returned
                                  (Value.tuple { toList := [Value.int IntKind.i64 1, Value.int IntKind.i64 0] }))
                          else
                            some
                              (Ending.returned
                                (Value.tuple { toList := [Value.int IntKind.i64 1, Value.int IntKind.i64 0] }))
                  else some (Ending.returned (Value.tuple { toList := [Value.int IntKind.i64 0, Value.int IntKind.i64 2] }))
                else none
              else some (Ending.returned (Value.tuple { toList := [Value.int IntKind.i64 0, Value.int IntKind.i64 2] }))
            else none
        else none
    else none := by kernel_rfl

set_option maxRecDepth 100000 in
theorem T_floor (n : Bool) (a b : ByteArray) : sxEnd Try.prog Rd.no ratCon.p 40 16 [.agg #[.bool n, .string a, .string b]] =
    bif szB a && szB b then
      bif checkR { neg := n, n := a, d := b } != 0 then
        some
          (Ending.returned
            (Value.tuple
              { toList := [Value.int IntKind.i64 0, Value.int IntKind.i64 (checkR { neg := n, n := a, d := b })] }))
      else
        bif szB a && szB b then
          bif szB (divF a b).fst then
            bif !(intF (divF a b).fst).snd then
              some (Ending.returned (Value.tuple { toList := [Value.int IntKind.i64 0, Value.int IntKind.i64 2] }))
            else
              bif decide ((intF (divF a b).fst).fst > 4611686018427387904) then
                some (Ending.returned (Value.tuple { toList := [Value.int IntKind.i64 0, Value.int IntKind.i64 2] }))
              else
                bif !n then
                  some
                    (Ending.returned
                      (Value.tuple
                        { toList := [Value.int IntKind.i64 (intF (divF a b).fst).fst, Value.int IntKind.i64 0] }))
                else
                  bif !(divF a b).snd.fst.toList == (bs []).toList then
                    bif decide (IntKind.i64.wrap ((intF (divF a b).fst).fst + 1) > 4611686018427387904) then
                      some (Ending.returned (Value.tuple { toList := [Value.int IntKind.i64 0, Value.int IntKind.i64 2] }))
                    else
                      some
                        (Ending.returned
                          (Value.tuple
                            {
                              toList :=
                                [Value.int IntKind.i64
                                    (IntKind.i64.wrap (0 - IntKind.i64.wrap ((intF (divF a b).fst).fst + 1))),
                                  Value.int IntKind.i64 0] }))
                  else
                    bif decide ((intF (divF a b).fst).fst > 4611686018427387904) then
                      some (Ending.returned (Value.tuple { toList := [Value.int IntKind.i64 0, Value.int IntKind.i64 2] }))
                    else
                      some
                        (Ending.returned
                          (Value.tuple
                            {
                              toList :=
                                [Value.int IntKind.i64 (IntKind.i64.wrap (0 - (intF (divF a b).fst).fst)),
                                  Value.int IntKind.i64 0] }))
          else none
        else none
    else none := by kernel_rfl

end Go.Proofs.Ytmcejefeloljiaa

/-
  Package ratios: what Add, Sub, Mul, Div, Compare, New, Floor and Ceil come to.
-/
namespace Go.Proofs.Ytmcejefeloljiaa
set_option linter.unusedSimpArgs false
set_option linter.unusedVariables false
open Go.RowKit Nm Go.SX

def resV (p : Rt × Int) : Value := .tuple #[rtV p.1, .int .i64 p.2]
def intV (p : Int × Int) : Value := .tuple #[.int .i64 p.1, .int .i64 p.2]
def resO (o : Option Rt) : Rt × Int := match o with | some r => (r, 0) | none => (zR, 2)
def both (a b : Rt) (p : Rt × Int) : Rt × Int := if checkR a = 0 then if checkR b = 0 then p else (zR, checkR b) else (zR, checkR a)
def addO (a b : Rt) : Option Rt := (timesO a.d b.d).bind fun d => (timesO a.n b.d).bind fun x => (timesO b.n a.d).bind fun y => (saddO ⟨a.neg, x⟩ ⟨b.neg, y⟩).bind fun s => overO s d
def mulO (a b : Rt) : Option Rt := (timesO a.n b.n).bind fun n => (timesO a.d b.d).bind fun d => overO ⟨a.neg != b.neg, n⟩ d
def negR (b : Rt) : Rt := ⟨!b.neg && !isE b.n, b.n, b.d⟩
def addR (a b : Rt) : Rt × Int := both a b (resO (addO a b))
def subR (a b : Rt) : Rt × Int := both a b (resO (addO a (negR b)))
def mulR (a b : Rt) : Rt × Int := both a b (resO (mulO a b))
def divR (a b : Rt) : Rt × Int := both a b (if isE b.n then (zR, 71) else resO (mulO a ⟨b.neg, b.d, b.n⟩))
def ordS (n m : Bool) (x y : ByteArray) : Int :=
  if n = m ∧ x = y then 0 else if (n ≠ m ∧ n = true) ∨ (n = true ∧ lessB y x = true) ∨ (n = false ∧ m = false ∧ lessB x y = true) then -1 else 1
def cmpR (a b : Rt) : Int × Int :=
  if checkR a = 0 then if checkR b = 0 then
    match timesO a.n b.d, timesO b.n a.d with
    | some x, some y => (ordS a.neg b.neg x y, 0)
    | _, _ => (0, 2)
  else (0, checkR b) else (0, checkR a)
def szR (a : Rt) : Bool := szB a.n && szB a.d

theorem beqB (x y : ByteArray) : (x == y) = decide (x = y) := by
  obtain ⟨a⟩ := x
  obtain ⟨b⟩ := y
  show (a == b) = _
  by_cases h : a = b
  · subst h; simp
  · have : ¬ (ByteArray.mk a = ByteArray.mk b) := fun e => h (ByteArray.mk.inj e)
    rw [decide_eq_false this, beq_eq_false_iff_ne]
    exact h
theorem sz_times {a b x : ByteArray} (h : timesO a b = some x) : szB x = true := by
  obtain ⟨h1, _⟩ := mustO_some h
  rw [← h1]
  exact sz256 (mulF_size a b)
theorem sz_plus {a b x : ByteArray} (h : plusO a b = some x) : szB x = true := by
  obtain ⟨h1, _⟩ := mustO_some h
  rw [← h1]
  exact sz256 (addF_size a b)
theorem sz_sub {a b x : ByteArray} (h : mustO (subF a b) = some x) : szB x = true := by
  obtain ⟨h1, _⟩ := mustO_some h
  rw [← h1]
  exact sz256 (subF_size a b)
theorem sz_sadd {a b s : Sg} (h : saddO a b = some s) : szB s.n = true := by
  unfold saddO at h
  split at h
  · simp only [Option.map_eq_some_iff] at h
    obtain ⟨x, h1, rfl⟩ := h
    exact sz_plus h1
  · split at h
    · simp only [Option.map_eq_some_iff] at h
      obtain ⟨x, h1, rfl⟩ := h
      exact sz_sub h1
    · simp only [Option.map_eq_some_iff] at h
      obtain ⟨x, h1, rfl⟩ := h
      exact sz_sub h1

set_option maxHeartbeats 2000000 in
theorem add_end (n m : Bool) (a b c d : ByteArray) (ha : szB a = true) (hb : szB b = true) (hc : szB c = true) (hd : szB d = true) :
    sxEnd Try.prog Rd.no ratCon.p 40 24 [.agg #[.bool n, .string a, .string b], .agg #[.bool m, .string c, .string d]] = some (.returned (resV (addR ⟨n, a, b⟩ ⟨m, c, d⟩))) := by
  rw [T_add]
  simp only [ha, hb, hc, hd, Bool.and_self, cond_true]
  unfold addR both
  by_cases h1 : checkR ⟨n, a, b⟩ = 0
  · by_cases h2 : checkR ⟨m, c, d⟩ = 0
    · unfold addO
      cases e1 : timesO b d with
      | none => simp [h1, h2, resO, resV, rtV, zR, bs]
      | some x1 =>
        have s1 := sz_times e1
        cases e2 : timesO a d with
        | none => simp [h1, h2, resO, resV, rtV, zR, bs]
        | some x2 =>
          have s2 := sz_times e2
          cases e3 : timesO c b with
          | none => simp [h1, h2, resO, resV, rtV, zR, bs]
          | some x3 =>
            have s3 := sz_times e3
            cases e4 : saddO ⟨n, x2⟩ ⟨m, x3⟩ with
            | none => simp [h1, h2, s2, s3, e4, resO, resV, rtV, zR, bs]
            | some x4 =>
              have s4 := sz_sadd e4
              obtain ⟨q, r⟩ := x4
              simp only at s4
              cases e5 : overO ⟨q, r⟩ x1 with
              | none => simp [h1, h2, s1, s2, s3, s4, e4, e5, resO, resV, rtV, zR, bs]
              | some x5 => simp [h1, h2, s1, s2, s3, s4, e4, e5, resO, resV, rtV]
    · have h2' : (checkR ⟨m, c, d⟩ != 0) = true := by simpa using h2
      simp [h1, h2, h2', resV, rtV, zR, bs]
  · have h1' : (checkR ⟨n, a, b⟩ != 0) = true := by simpa using h1
    simp [h1, h1', resV, rtV, zR, bs]
set_option maxHeartbeats 2000000 in
theorem sub_end (n m : Bool) (a b c d : ByteArray) (ha : szB a = true) (hb : szB b = true) (hc : szB c = true) (hd : szB d = true) :
    sxEnd Try.prog Rd.no ratCon.p 40 26 [.agg #[.bool n, .string a, .string b], .agg #[.bool m, .string c, .string d]] = some (.returned (resV (subR ⟨n, a, b⟩ ⟨m, c, d⟩))) := by
  rw [T_sub]
  simp only [ha, hb, hc, hd, Bool.and_self, cond_true, eqL, ← isE_bs]
  unfold subR both negR
  by_cases h1 : checkR ⟨n, a, b⟩ = 0
  · by_cases h2 : checkR ⟨m, c, d⟩ = 0
    · have key : ∀ q : Bool, (!m && !isE c) = q → _ := fun q hq => hq
      unfold addO
      cases e1 : timesO b d with
      | none => cases m <;> simp [h1, h2, resO, resV, rtV, zR, bs]
      | some x1 =>
        have s1 := sz_times e1
        cases e2 : timesO a d with
        | none => cases m <;> simp [h1, h2, resO, resV, rtV, zR, bs]
        | some x2 =>
          have s2 := sz_times e2
          cases e3 : timesO c b with
          | none => cases m <;> simp [h1, h2, resO, resV, rtV, zR, bs]
          | some x3 =>
            have s3 := sz_times e3
            cases e4 : saddO ⟨n, x2⟩ ⟨!m && !isE c, x3⟩ with
            | none => cases m <;> simp at e4 <;> simp [h1, h2, s2, s3, e4, resO, resV, rtV, zR, bs]
            | some x4 =>
              have s4 := sz_sadd e4
              obtain ⟨q, r⟩ := x4
              simp only at s4
              cases e5 : overO ⟨q, r⟩ x1 with
              | none => cases m <;> simp at e4 <;> simp [h1, h2, s1, s2, s3, s4, e4, e5, resO, resV, rtV, zR, bs]
              | some x5 => cases m <;> simp at e4 <;> simp [h1, h2, s1, s2, s3, s4, e4, e5, resO, resV, rtV]
    · have h2' : (checkR ⟨m, c, d⟩ != 0) = true := by simpa using h2
      simp [h1, h2, h2', resV, rtV, zR, bs]
  · have h1' : (checkR ⟨n, a, b⟩ != 0) = true := by simpa using h1
    simp [h1, h1', resV, rtV, zR, bs]
set_option maxHeartbeats 2000000 in
theorem mul_end (n m : Bool) (a b c d : ByteArray) (ha : szB a = true) (hb : szB b = true) (hc : szB c = true) (hd : szB d = true) :
    sxEnd Try.prog Rd.no ratCon.p 40 28 [.agg #[.bool n, .string a, .string b], .agg #[.bool m, .string c, .string d]] = some (.returned (resV (mulR ⟨n, a, b⟩ ⟨m, c, d⟩))) := by
  rw [T_mul]
  simp only [ha, hb, hc, hd, Bool.and_self, cond_true]
  unfold mulR both
  by_cases h1 : checkR ⟨n, a, b⟩ = 0
  · by_cases h2 : checkR ⟨m, c, d⟩ = 0
    · unfold mulO
      have hne : (n != m) = !(n == m) := rfl
      cases e1 : timesO a c with
      | none => simp [h1, h2, resO, resV, rtV, zR, bs]
      | some x1 =>
        have s1 := sz_times e1
        cases e2 : timesO b d with
        | none => simp [h1, h2, resO, resV, rtV, zR, bs]
        | some x2 =>
          have s2 := sz_times e2
          cases e5 : overO ⟨n != m, x1⟩ x2 with
          | none => simp only [hne] at e5; simp [h1, h2, s1, s2, e5, hne, resO, resV, rtV, zR, bs]
          | some x5 => simp only [hne] at e5; simp [h1, h2, s1, s2, e5, hne, resO, resV, rtV]
    · have h2' : (checkR ⟨m, c, d⟩ != 0) = true := by simpa using h2
      simp [h1, h2, h2', resV, rtV, zR, bs]
  · have h1' : (checkR ⟨n, a, b⟩ != 0) = true := by simpa using h1
    simp [h1, h1', resV, rtV, zR, bs]
set_option maxHeartbeats 2000000 in
theorem div_end (n m : Bool) (a b c d : ByteArray) (ha : szB a = true) (hb : szB b = true) (hc : szB c = true) (hd : szB d = true) :
    sxEnd Try.prog Rd.no ratCon.p 40 30 [.agg #[.bool n, .string a, .string b], .agg #[.bool m, .string c, .string d]] = some (.returned (resV (divR ⟨n, a, b⟩ ⟨m, c, d⟩))) := by
  rw [T_div]
  simp only [ha, hb, hc, hd, Bool.and_self, cond_true, eqL, ← isE_bs]
  unfold divR both
  by_cases h1 : checkR ⟨n, a, b⟩ = 0
  · by_cases h2 : checkR ⟨m, c, d⟩ = 0
    · cases hz : isE c with
      | true => simp [h1, h2, hz, resV, rtV, zR, bs]
      | false =>
        unfold mulO
        have hne : (n != m) = !(n == m) := rfl
        cases e1 : timesO a d with
        | none => simp [h1, h2, hz, resO, resV, rtV, zR, bs]
        | some x1 =>
          have s1 := sz_times e1
          cases e2 : timesO b c with
          | none => simp [h1, h2, hz, resO, resV, rtV, zR, bs]
          | some x2 =>
            have s2 := sz_times e2
            cases e5 : overO ⟨n != m, x1⟩ x2 with
            | none => simp only [hne] at e5; simp [h1, h2, hz, s1, s2, e5, hne, resO, resV, rtV, zR, bs]
            | some x5 => simp only [hne] at e5; simp [h1, h2, hz, s1, s2, e5, hne, resO, resV, rtV]
    · have h2' : (checkR ⟨m, c, d⟩ != 0) = true := by simpa using h2
      simp [h1, h2, h2', resV, rtV, zR, bs]
  · have h1' : (checkR ⟨n, a, b⟩ != 0) = true := by simpa using h1
    simp [h1, h1', resV, rtV, zR, bs]
set_option maxHeartbeats 4000000 in
theorem cmp_end (n m : Bool) (a b c d : ByteArray) (ha : szB a = true) (hb : szB b = true) (hc : szB c = true) (hd : szB d = true) :
    sxEnd Try.prog Rd.no ratCon.p 40 32 [.agg #[.bool n, .string a, .string b], .agg #[.bool m, .string c, .string d]] = some (.returned (intV (cmpR ⟨n, a, b⟩ ⟨m, c, d⟩))) := by
  rw [T_cmp]
  simp only [ha, hb, hc, hd, Bool.and_self, cond_true]
  unfold cmpR
  by_cases h1 : checkR ⟨n, a, b⟩ = 0
  · by_cases h2 : checkR ⟨m, c, d⟩ = 0
    · cases e1 : timesO a d with
      | none => simp [h1, h2, intV]
      | some x =>
        have s1 := sz_times e1
        cases e2 : timesO c b with
        | none => simp [h1, h2, intV]
        | some y =>
          have s2 := sz_times e2
          have l1 : decide ((cmpF x y).1 < 0) = lessB x y := rfl
          have l2 : decide ((cmpF y x).1 < 0) = lessB y x := rfl
          simp only [h1, h2, Option.isSome_some, Option.getD_some, s1, s2, l1, l2, Bool.and_self, cond_true, cond_false, bne_self_eq_false, if_true]
          unfold ordS intV
          by_cases hxy : x = y
          · have hb' : (x == y) = true := by rw [beqB]; exact decide_eq_true hxy
            rw [hb']
            cases n <;> cases m <;> cases lessB x y <;> cases lessB y x <;> simp [hxy]
          · have hb' : (x == y) = false := by rw [beqB]; exact decide_eq_false hxy
            rw [hb']
            cases n <;> cases m <;> cases lessB x y <;> cases lessB y x <;> simp [hxy]
    · have h2' : (checkR ⟨m, c, d⟩ != 0) = true := by simpa using h2
      simp [h1, h2, h2', intV]
  · have h1' : (checkR ⟨n, a, b⟩ != 0) = true := by simpa using h1
    simp [h1, h1', intV]

def floorR (a : Rt) : Int × Int :=
  if checkR a = 0 then
    if (intF (divF a.n a.d).1).2 = false ∨ (intF (divF a.n a.d).1).1 > 4611686018427387904 then (0, 2)
    else if a.neg = false then ((intF (divF a.n a.d).1).1, 0)
    else if (if isE (divF a.n a.d).2.1 then (intF (divF a.n a.d).1).1 else (intF (divF a.n a.d).1).1 + 1) > 4611686018427387904 then (0, 2)
    else (-(if isE (divF a.n a.d).2.1 then (intF (divF a.n a.d).1).1 else (intF (divF a.n a.d).1).1 + 1), 0)
  else (0, checkR a)
def ceilR (a : Rt) : Int × Int := if checkR a = 0 then (-(floorR (negR a)).1, (floorR (negR a)).2) else (0, checkR a)
theorem divF_size (a b : ByteArray) : (divF a b).1.size ≤ 256 := by
  unfold divF
  split
  · rename_i h
    obtain ⟨n1, n2, s1, s2⟩ := chk2_zero h
    obtain ⟨ea, sA⟩ := natE n1 s1
    split
    · exact Nat.zero_le _
    · show (encS _).size ≤ 256
      rw [size_encS]
      exact sA.mono (Nat.div_le_self _ _)
  · exact Nat.zero_le _
theorem intF_range (s : ByteArray) : 0 ≤ (intF s).1 ∧ (intF s).1 < 9223372036854775808 := by
  unfold intF
  split
  · rename_i h
    simp only
    omega
  · simp
theorem floor_end (n : Bool) (a b : ByteArray) (ha : szB a = true) (hb : szB b = true) :
    sxEnd Try.prog Rd.no ratCon.p 40 16 [.agg #[.bool n, .string a, .string b]] = some (.returned (intV (floorR ⟨n, a, b⟩))) := by
  rw [T_floor]
  simp only [ha, hb, sz256 (divF_size a b), Bool.and_self, cond_true, eqL, ← isE_bs]
  unfold floorR intV
  by_cases h1 : checkR ⟨n, a, b⟩ = 0
  · obtain ⟨r1, r2⟩ := intF_range (divF a b).1
    simp only [h1, if_true, bne_self_eq_false, cond_false]
    generalize (intF (divF a b).1).1 = i at *
    generalize (intF (divF a b).1).2 = o at *
    generalize isE (divF a b).2.1 = z
    by_cases hi : i > 4611686018427387904
    · cases o <;> simp [hi]
    · have w1 : IntKind.i64.wrap (i + 1) = i + 1 := wrapI (by omega) (by omega)
      have w2 : IntKind.i64.wrap (0 - (i + 1)) = -(i + 1) := by rw [wrapI (by omega) (by omega)]; omega
      have w3 : IntKind.i64.wrap (0 - i) = -i := by rw [wrapI (by omega) (by omega)]; omega
      rw [w1, w2, w3]
      by_cases hj : i + 1 > 4611686018427387904
      · cases o <;> cases n <;> cases z <;> simp [hi, hj]
      · cases o <;> cases n <;> cases z <;> simp [hi, hj]
  · have h1' : (checkR ⟨n, a, b⟩ != 0) = true := by simpa using h1
    simp [h1, h1']
def newR (n d : Int) : Rt × Int := if d = 0 then (zR, 71) else resO (overO ⟨decide (n < 0) != decide (d < 0), encS n.natAbs⟩ (encS d.natAbs))
theorem over_small {n : Bool} {a d : Nat} (ha : Sm a) (hd : Sm d) : overO ⟨n, encS a⟩ (encS d) = some (overR ⟨n, encS a⟩ (encS d) (encS (Nat.gcd a d))) := by
  unfold overO mustO
  rw [gcdE ha hd]
  rfl
theorem sm_abs {n : Int} (h : inI n = true) : Sm n.natAbs := by
  unfold inI at h
  rw [Bool.and_eq_true, decide_eq_true_eq, decide_eq_true_eq] at h
  have := enc_sm (n := n.natAbs) (by omega)
  rwa [size_encS'] at this
theorem new_end (n d : Int) (hn : inI n = true) (hd : inI d = true) : sxEnd Try.prog Rd.no ratCon.p 40 14 [.int .i64 n, .int .i64 d] = some (.returned (resV (newR n d))) := by
  rw [T_new]
  have sn := sm_abs hn
  have sd := sm_abs hd
  simp only [hn, hd, sz256 sn.size, sz256 sd.size, Bool.and_self, cond_true]
  unfold newR
  have hne : (decide (n < 0) != decide (d < 0)) = !(decide (n < 0) == decide (d < 0)) := rfl
  by_cases h : d = 0
  · simp [h, resV, rtV, zR, bs]
  · have hb : (d == 0) = false := by simpa using h
    rw [hb, if_neg h, hne, over_small sn sd]
    simp [resO, resV, rtV]
/-- the table with Floor -/
def flCon : ECon := fun f =>
  match f with
  | 16 => some fun vs => match vs with
    | [.agg ⟨[.bool n, .string a, .string b]⟩] => .need (szB a && szB b) (.ok (.ret (.tup [.val (.int .i64 (floorR ⟨n, a, b⟩).1), .val (.int .i64 (floorR ⟨n, a, b⟩).2)])))
    | _ => .no
  | f => ratCon f
theorem flCon_ok : EConOk Try.prog flCon := by
  intro f h hf
  unfold flCon at hf
  split at hf
  · cases hf
    refine ⟨⟨_, Try.func16, rfl⟩, fun vs e he => ?_⟩
    simp only at he
    split at he
    · obtain ⟨h1, h2⟩ := R3.need_some he
      cases h2
      rw [Bool.and_eq_true] at h1
      exact ⟨_, rfl, plain_sound pOk (ECon.ok ratCon_ok) 40 (floor_end _ _ _ h1.1 h1.2)⟩
    · cases he
  · exact ratCon_ok _ _ hf

end Go.Proofs.Ytmcejefeloljiaa

/-
  What the symbolic executor shows of Ceil.
-/
namespace Go.Proofs.Ytmcejefeloljiaa
open Go.RowKit Nm Go.SX

set_option maxRecDepth 100000 in
theorem T_ceil (n : Bool) (a b : ByteArray) : sxEnd Try.prog Rd.no flCon.p 40 18 [.agg #[.bool n, .string a, .string b]] =
    bif szB a && szB b then
      bif checkR { neg := n, n := a, d := b } != 0 then
        some
          (Ending.returned
            (Value.tuple
              { toList := [Value.int IntKind.i64 0, Value.int IntKind.i64 (checkR { neg := n, n := a, d := b })] }))
      else
        bif !n then
          bif szB a && szB b then
            some
              (Ending.returned
                (Value.tuple
                  {
                    toList :=
                      [Value.int IntKind.i64
                          (IntKind.i64.wrap
                            (0 -
                              (floorR
                                  { neg := bif true then !a.toList == (bs []).toList else false, n := a,
                                    d := b }).fst)),
                        Value.int IntKind.i64
                          (floorR
                              { neg := bif true then !a.toList == (bs []).toList else false, n := a,
                                d := b }).snd] }))
          else none
        else
          bif szB a && szB b then
            some
              (Ending.returned
                (Value.tuple
                  {
                    toList :=
                      [Value.int IntKind.i64 (IntKind.i64.wrap (0 - (floorR { neg := false, n := a, d := b }).fst)),
                        Value.int IntKind.i64 (floorR { neg := false, n := a, d := b }).snd] }))
          else none
    else none := by kernel_rfl

end Go.Proofs.Ytmcejefeloljiaa

/-
  Package ratios: the table of its functions.
-/
namespace Go.Proofs.Ytmcejefeloljiaa
open Go.RowKit Nm Go.SX

theorem check_neg (a : Rt) (h : checkR a = 0) : checkR (negR a) = 0 := by
  unfold checkR at h ⊢
  unfold badR at h ⊢
  unfold negR
  simp only
  cases hn : a.neg <;> cases he : isE a.n <;> simp_all
theorem floorR_range (a : Rt) : -4611686018427387904 ≤ (floorR a).1 ∧ (floorR a).1 ≤ 4611686018427387904 := by
  obtain ⟨r1, r2⟩ := intF_range (divF a.n a.d).1
  unfold floorR
  generalize (intF (divF a.n a.d).1).1 = i at *
  generalize (intF (divF a.n a.d).1).2 = o at *
  generalize isE (divF a.n a.d).2.1 = z
  have key : ∀ j : Int, 0 ≤ j → -4611686018427387904 ≤ (if j > 4611686018427387904 then ((0, 2) : Int × Int) else (-j, 0)).1 ∧ (if j > 4611686018427387904 then ((0, 2) : Int × Int) else (-j, 0)).1 ≤ 4611686018427387904 := by
    intro j hj
    split
    · simp
    · simp only; omega
  split
  · split
    · simp
    · rename_i h
      split
      · simp only; omega
      · split
        · exact key _ (by omega)
        · exact key _ (by omega)
  · simp
theorem ceil_end (n : Bool) (a b : ByteArray) (ha : szB a = true) (hb : szB b = true) :
    sxEnd Try.prog Rd.no flCon.p 40 18 [.agg #[.bool n, .string a, .string b]] = some (.returned (intV (ceilR ⟨n, a, b⟩))) := by
  rw [T_ceil]
  simp only [ha, hb, Bool.and_self, cond_true, eqL, ← isE_bs]
  unfold ceilR intV
  have w : ∀ x : Rt, IntKind.i64.wrap (0 - (floorR x).1) = -(floorR x).1 := fun x => by
    have := floorR_range x
    rw [wrapI (by omega) (by omega)]
    omega
  have w2 : ∀ x : Rt, IntKind.i64.wrap (-(floorR x).1) = -(floorR x).1 := fun x => by
    have := w x
    rwa [Int.zero_sub] at this
  by_cases h1 : checkR ⟨n, a, b⟩ = 0
  · cases n <;> simp [h1, w2, negR]
  · have h1' : (checkR ⟨n, a, b⟩ != 0) = true := by simpa using h1
    simp [h1, h1']
def retR (p : Rt × Int) : R3 OutE := .ok (.ret (.tup [.val (.agg #[.bool p.1.neg, .string p.1.n, .string p.1.d]), .val (.int .i64 p.2)]))
def retI (p : Int × Int) : R3 OutE := .ok (.ret (.tup [.val (.int .i64 p.1), .val (.int .i64 p.2)]))
def binR (g : Rt → Rt → Rt × Int) (vs : List Value) : R3 OutE :=
  match vs with
  | [.agg ⟨[.bool n, .string a, .string b]⟩, .agg ⟨[.bool m, .string c, .string d]⟩] => .need (szB a && szB b && (szB c && szB d)) (retR (g ⟨n, a, b⟩ ⟨m, c, d⟩))
  | _ => .no
def apiCon : ECon := fun f =>
  match f with
  | 24 => some (binR addR)
  | 26 => some (binR subR)
  | 28 => some (binR mulR)
  | 30 => some (binR divR)
  | 32 => some fun vs => match vs with
    | [.agg ⟨[.bool n, .string a, .string b]⟩, .agg ⟨[.bool m, .string c, .string d]⟩] => .need (szB a && szB b && (szB c && szB d)) (retI (cmpR ⟨n, a, b⟩ ⟨m, c, d⟩))
    | _ => .no
  | 18 => some fun vs => match vs with
    | [.agg ⟨[.bool n, .string a, .string b]⟩] => .need (szB a && szB b) (retI (ceilR ⟨n, a, b⟩))
    | _ => .no
  | 14 => some fun vs => match vs with
    | [.int .i64 n, .int .i64 d] => .need (inI n && inI d) (retR (newR n d))
    | _ => .no
  | f => flCon f
theorem binR_ok {f : FuncId} {g : Rt → Rt → Rt × Int} (h : ∀ n m a b c d, szB a = true → szB b = true → szB c = true → szB d = true →
    Plain Try.prog f [.agg #[.bool n, .string a, .string b], .agg #[.bool m, .string c, .string d]] (.returned (resV (g ⟨n, a, b⟩ ⟨m, c, d⟩)))) (vs : List Value) (e : OutE) (he : (binR g vs).res = some e) :
    ∃ e0, e.end = some e0 ∧ Plain Try.prog f vs e0 := by
  unfold binR at he
  split at he
  · obtain ⟨h1, h2⟩ := R3.need_some he
    cases h2
    simp only [Bool.and_eq_true] at h1
    exact ⟨_, rfl, h _ _ _ _ _ _ h1.1.1 h1.1.2 h1.2.1 h1.2.2⟩
  · cases he
theorem apiCon_ok : EConOk Try.prog apiCon := by
  have pl : ∀ {f : FuncId} {vs : List Value} {e0 : Ending}, sxEnd Try.prog Rd.no ratCon.p 40 f vs = some e0 → Plain Try.prog f vs e0 := fun h => plain_sound pOk (ECon.ok ratCon_ok) 40 h
  intro f h hf
  unfold apiCon at hf
  split at hf
  · cases hf; exact ⟨⟨_, Try.func24, rfl⟩, binR_ok fun n m a b c d h1 h2 h3 h4 => pl (add_end n m a b c d h1 h2 h3 h4)⟩
  · cases hf; exact ⟨⟨_, Try.func26, rfl⟩, binR_ok fun n m a b c d h1 h2 h3 h4 => pl (sub_end n m a b c d h1 h2 h3 h4)⟩
  · cases hf; exact ⟨⟨_, Try.func28, rfl⟩, binR_ok fun n m a b c d h1 h2 h3 h4 => pl (mul_end n m a b c d h1 h2 h3 h4)⟩
  · cases hf; exact ⟨⟨_, Try.func30, rfl⟩, binR_ok fun n m a b c d h1 h2 h3 h4 => pl (div_end n m a b c d h1 h2 h3 h4)⟩
  · cases hf
    refine ⟨⟨_, Try.func32, rfl⟩, fun vs e he => ?_⟩
    simp only at he
    split at he
    · obtain ⟨h1, h2⟩ := R3.need_some he
      cases h2
      simp only [Bool.and_eq_true] at h1
      exact ⟨_, rfl, pl (cmp_end _ _ _ _ _ _ h1.1.1 h1.1.2 h1.2.1 h1.2.2)⟩
    · cases he
  · cases hf
    refine ⟨⟨_, Try.func18, rfl⟩, fun vs e he => ?_⟩
    simp only at he
    split at he
    · obtain ⟨h1, h2⟩ := R3.need_some he
      cases h2
      rw [Bool.and_eq_true] at h1
      exact ⟨_, rfl, plain_sound pOk (ECon.ok flCon_ok) 40 (ceil_end _ _ _ h1.1 h1.2)⟩
    · cases he
  · cases hf
    refine ⟨⟨_, Try.func14, rfl⟩, fun vs e he => ?_⟩
    simp only at he
    split at he
    · obtain ⟨h1, h2⟩ := R3.need_some he
      cases h2
      rw [Bool.and_eq_true] at h1
      exact ⟨_, rfl, pl (new_end _ _ h1.1 h1.2)⟩
    · cases he
  · exact flCon_ok _ _ hf

end Go.Proofs.Ytmcejefeloljiaa

/-
  The examples of the chapter.
-/
namespace Go.Proofs.Ytmcejefeloljiaa
open Go.RowKit Nm Go.SX

def bRt (a b : Rt) : Bool := (a.neg == b.neg) && ((a.n == b.n) && (a.d == b.d))
theorem bRt_eq {a b : Rt} (h : bRt a b = true) : a = b := by
  obtain ⟨n, x, y⟩ := a
  obtain ⟨m, z, u⟩ := b
  unfold bRt at h
  simp only [beqB, Bool.and_eq_true, decide_eq_true_eq, beq_iff_eq] at h
  obtain ⟨h1, h2, h3⟩ := h
  rw [h1, h2, h3]
/-- a result that is one of some is that one -/
def oneR (p : Rt × Int) : List (Rt × Int) → R3 OutE
  | [] => .no
  | c :: l => .br (bRt p.1 c.1 && p.2 == c.2) (retR c) (oneR p l)
theorem oneR_eq {p : Rt × Int} : ∀ {l : List (Rt × Int)} {e : OutE}, (oneR p l).res = some e → (retR p).res = some e
  | [], _, h => by cases h
  | c :: l, e, h => by
    simp only [oneR, R3.res] at h
    cases hb : (bRt p.1 c.1 && p.2 == c.2) with
    | true =>
      rw [hb] at h
      rw [Bool.and_eq_true] at hb
      have h1 := bRt_eq hb.1
      have h2 : p.2 = c.2 := by simpa using hb.2
      have : p = c := Prod.ext h1 h2
      rw [this]
      exact h
    | false =>
      rw [hb] at h
      exact oneR_eq h
def oneI (p : Int × Int) : List (Int × Int) → R3 OutE
  | [] => .no
  | c :: l => .br (p.1 == c.1 && p.2 == c.2) (retI c) (oneI p l)
theorem oneI_eq {p : Int × Int} : ∀ {l : List (Int × Int)} {e : OutE}, (oneI p l).res = some e → (retI p).res = some e
  | [], _, h => by cases h
  | c :: l, e, h => by
    simp only [oneI, R3.res] at h
    cases hb : (p.1 == c.1 && p.2 == c.2) with
    | true =>
      rw [hb] at h
      rw [Bool.and_eq_true] at hb
      have : p = c := Prod.ext (by simpa using hb.1) (by simpa using hb.2)
      rw [this]
      exact h
    | false =>
      rw [hb] at h
      exact oneI_eq h
def saneL : List (Rt × Int) := [(⟨true, bs [2], bs [3]⟩, 0), (⟨false, bs [], bs [1]⟩, 0), (⟨false, bs [], bs []⟩, 71), (⟨false, bs [], bs [1]⟩, 71), (⟨false, bs [4], bs [15]⟩, 0), (⟨true, bs [1], bs [2]⟩, 0), (⟨true, bs [3], bs [4]⟩, 0)]
def saneI : List (Int × Int) := [(-1, 0), (0, 0), (3, 0), (4, 0)]
def filt (e : OutE) : R3 OutE :=
  match e with
  | .ret (.tup [.val (.agg ⟨[.bool a, .string b, .string c]⟩), .val (.int .i64 k)]) => oneR (⟨a, b, c⟩, k) saneL
  | .ret (.tup [.val (.int .i64 a), .val (.int .i64 k)]) => oneI (a, k) saneI
  | e => .ok e
theorem filt_eq {e e' : OutE} (h : (filt e).res = some e') : e' = e := by
  unfold filt at h
  split at h
  · have := oneR_eq h
    cases this
    rfl
  · have := oneI_eq h
    cases this
    rfl
  · cases h
    rfl
def fltCon (g : ECon) : ECon := fun f =>
  match g f with
  | some h => some fun vs => (h vs).bind filt
  | none => none
theorem fltCon_ok {g : ECon} (hg : EConOk Try.prog g) : EConOk Try.prog (fltCon g) := by
  intro f h hf
  unfold fltCon at hf
  split at hf
  · rename_i h0 hh
    cases hf
    obtain ⟨h1, h2⟩ := hg f h0 hh
    refine ⟨h1, fun vs e he => ?_⟩
    obtain ⟨e0, h3, h4⟩ := R3.bind_some _ _ _ he
    rw [filt_eq h4]
    exact h2 vs e0 h3
  · cases hf
def saneCon : ECon := fltCon apiCon
set_option maxRecDepth 100000 in
theorem T_sane : sxEnd Try.prog Rd.no saneCon.p 60 12 [] = some (.returned (.bool true)) := by kernel_rfl
def lawCon : ECon := fun f =>
  match f with
  | 12 => some fun vs => match vs with | [] => .ok (.ret (.val (.bool true))) | _ => .no
  | f => apiCon f
theorem lawCon_ok : EConOk Try.prog lawCon := by
  intro f h hf
  unfold lawCon at hf
  split at hf
  · cases hf
    refine ⟨⟨_, Try.func12, rfl⟩, fun vs e he => ?_⟩
    simp only at he
    split at he
    · cases he
      exact ⟨_, rfl, plain_sound pOk (ECon.ok (fltCon_ok apiCon_ok)) 60 T_sane⟩
    · cases he
  · exact apiCon_ok _ _ hf

end Go.Proofs.Ytmcejefeloljiaa

/-
  Plain numbers: lists of ints to the base 256, the least significant first (the reference's sums and products).
-/
namespace Go.Proofs.Ytmcejefeloljiaa.Nm
set_option linter.unusedVariables false
set_option linter.unusedSimpArgs false

/-- the value of a list of ints, the least significant first -/
def vle : List Int → Int
  | [] => 0
  | x :: l => x + 256 * vle l
/-- the bytes of a text, the last one first -/
def dgi (b : List UInt8) : List Int := (b.map fun x => ((x.toNat : Nat) : Int)).reverse

theorem vle_append (l m : List Int) : vle (l ++ m) = vle l + 256 ^ l.length * vle m := by
  induction l with
  | nil => simp [vle]
  | cons x l ih =>
    simp only [List.cons_append, vle, ih, List.length_cons, Int.pow_succ, Int.mul_add]
    rw [Int.mul_comm (256 ^ l.length) 256, Int.mul_assoc]
    omega
theorem vle_snoc (l : List Int) (x : Int) : vle (l ++ [x]) = vle l + 256 ^ l.length * x := by
  rw [vle_append]; simp [vle]
theorem vle_split (l : List Int) (i : Nat) (h : i ≤ l.length) : vle l = vle (l.take i) + 256 ^ i * vle (l.drop i) := by
  have := vle_append (l.take i) (l.drop i)
  rw [List.take_append_drop, List.length_take, Nat.min_eq_left h] at this
  exact this
theorem vle_drop (l : List Int) (i : Nat) (h : i < l.length) : vle (l.drop i) = l[i] + 256 * vle (l.drop (i + 1)) := by
  rw [List.drop_eq_getElem_cons h]; rfl
theorem vle_take (l : List Int) (i : Nat) : vle (l.take (i + 1)) = vle (l.take i) + 256 ^ i * l.getD i 0 := by
  by_cases h : i < l.length
  · rw [List.take_succ_eq_append_getElem h, vle_snoc, List.length_take, Nat.min_eq_left (by omega)]
    simp [List.getD, h]
  · rw [List.take_of_length_le (by omega), List.take_of_length_le (by omega)]
    simp [List.getD, List.getElem?_eq_none (by omega : l.length ≤ i)]
theorem vle_set (l : List Int) (i : Nat) (x : Int) (h : i < l.length) : vle (l.set i x) = vle l + 256 ^ i * (x - l[i]) := by
  induction l generalizing i with
  | nil => simp at h
  | cons y l ih =>
    cases i with
    | zero => simp [vle]; omega
    | succ i =>
      simp only [List.length_cons] at h
      simp only [List.set_cons_succ, vle, List.getElem_cons_succ, ih i (by omega), Int.pow_succ, Int.mul_add]
      rw [Int.mul_comm (256 ^ i) 256, Int.mul_assoc]
      omega
theorem vle_nonneg (l : List Int) (h : ∀ x ∈ l, 0 ≤ x) : 0 ≤ vle l := by
  induction l with
  | nil => simp [vle]
  | cons x l ih =>
    have h1 := h x (by simp)
    have h2 := ih fun y hy => h y (by simp [hy])
    simp only [vle]; omega
theorem vle_lt (l : List Int) (h : ∀ x ∈ l, x < 256) : vle l < 256 ^ l.length := by
  induction l with
  | nil => simp [vle]
  | cons x l ih =>
    have h1 := h x (by simp)
    have h2 := ih fun y hy => h y (by simp [hy])
    simp only [vle, List.length_cons, Int.pow_succ]; omega
theorem vle_replicate (n : Nat) : vle (List.replicate n 0) = 0 := by
  induction n with
  | zero => rfl
  | succ n ih => rw [List.replicate_succ, vle, ih]; rfl
theorem length_dgi (b : List UInt8) : (dgi b).length = b.length := by simp [dgi]
theorem vle_dgi (b : List UInt8) : vle (dgi b) = ((val b : Nat) : Int) := by
  induction b with
  | nil => rfl
  | cons x l ih =>
    have e : dgi (x :: l) = dgi l ++ [((x.toNat : Nat) : Int)] := by simp [dgi]
    rw [e, vle_snoc, ih, length_dgi, val_cons, Int.natCast_add, Int.natCast_mul, Int.natCast_pow, Int.mul_comm]
    simp only [Int.cast_ofNat_Int]
    omega
theorem dgi_range (b : List UInt8) : ∀ x ∈ dgi b, 0 ≤ x ∧ x < 256 := by
  intro x hx
  simp only [dgi, List.mem_reverse, List.mem_map] at hx
  obtain ⟨y, _, rfl⟩ := hx
  have := y.toNat_lt
  omega
/-- digits, one more -/
theorem dgi_drop (b : List UInt8) (i : Nat) (h : i < b.length) : dgi (b.drop i) = dgi (b.drop (i + 1)) ++ [((b[i].toNat : Nat) : Int)] := by
  rw [List.drop_eq_getElem_cons h]
  unfold dgi
  rw [List.map_cons, List.reverse_cons]
theorem getD_range {l : List Int} {a b : Int} (h : ∀ x ∈ l, a ≤ x ∧ x < b) (ha : a ≤ 0) (hb : 0 < b) (i : Nat) : a ≤ l.getD i 0 ∧ l.getD i 0 < b := by
  by_cases hi : i < l.length
  · simp only [List.getD, List.getElem?_eq_getElem hi, Option.getD_some]
    exact h _ (List.getElem_mem hi)
  · simp only [List.getD, List.getElem?_eq_none (by omega : l.length ≤ i), Option.getD_none]
    exact ⟨ha, hb⟩

/-- between two rounds of 'carry' -/
structure carryI (l out : List Int) (over : Int) (i : Nat) : Prop where
  len : out.length = i
  rng : ∀ x ∈ out, 0 ≤ x ∧ x < 256
  sum : vle out + 256 ^ i * (over + vle (l.drop i)) = vle l
  low : i ≤ l.length → -17179869184 ≤ over ∧ over ≤ 17179869184
  top : l.length < i → 0 ≤ over ∧ over * 256 ^ (i - l.length) ≤ 17179869184
theorem carryI.zero (l : List Int) : carryI l [] 0 0 :=
  ⟨rfl, by simp, by simp [vle], by omega, by omega⟩
theorem carryI.step {l out : List Int} {over d : Int} {i : Nat} (h : carryI l out over i) (hi : i < l.length) (hd : d = over + l[i]) (he : -8589934592 ≤ l[i] ∧ l[i] ≤ 8589934592) :
    carryI l (out ++ [d % 256]) (d / 256) (i + 1) := by
  obtain ⟨h1, h2, h3, h4, _⟩ := h
  have hl := h4 (by omega)
  refine ⟨by simp [h1], ?_, ?_, by omega, by omega⟩
  · intro x hx
    rw [List.mem_append] at hx
    rcases hx with hx | hx
    · exact h2 x hx
    · simp at hx; subst hx; omega
  · rw [vle_snoc, h1, ← h3, vle_drop l i hi, Int.pow_succ, Int.mul_assoc, Int.add_assoc, ← Int.mul_add]
    congr 2
    omega
theorem carryI.more {l out : List Int} {over : Int} {i : Nat} (h : carryI l out over i) (hi : l.length ≤ i) (hp : 0 < over) :
    carryI l (out ++ [over % 256]) (over / 256) (i + 1) ∧ i ≤ l.length + 5 := by
  obtain ⟨h1, h2, h3, h4, h5⟩ := h
  have hb : over * 256 ^ (i - l.length) ≤ 17179869184 := by
    by_cases he : i = l.length
    · subst he; simp; exact (h4 (Nat.le_refl _)).2
    · exact (h5 (by omega)).2
  refine ⟨⟨by simp [h1], ?_, ?_, by omega, ?_⟩, ?_⟩
  · intro x hx
    rw [List.mem_append] at hx
    rcases hx with hx | hx
    · exact h2 x hx
    · simp at hx; subst hx; omega
  · rw [vle_snoc, h1, ← h3, List.drop_of_length_le hi, List.drop_of_length_le (by omega)]
    simp only [vle]
    rw [Int.pow_succ, Int.mul_assoc, Int.add_assoc, ← Int.mul_add]
    congr 2
    omega
  · intro _
    refine ⟨by omega, ?_⟩
    rw [show i + 1 - l.length = (i - l.length) + 1 by omega, Int.pow_succ]
    have hp2 : (0 : Int) ≤ 256 ^ (i - l.length) := Int.pow_nonneg (by omega)
    have : over / 256 * (256 ^ (i - l.length) * 256) = (over / 256 * 256) * 256 ^ (i - l.length) := by
      rw [Int.mul_comm (256 ^ (i - l.length)) 256, Int.mul_assoc]
    rw [this]
    exact Int.le_trans (Int.mul_le_mul_of_nonneg_right (show over / 256 * 256 ≤ over by omega) hp2) hb
  · apply Decidable.byContradiction
    intro hc
    have e : (256 : Int) ^ 6 ≤ 256 ^ (i - l.length) := by
      have := Nat.pow_le_pow_right (show 0 < 256 by omega) (show 6 ≤ i - l.length by omega)
      have h6 : ((256 ^ 6 : Nat) : Int) ≤ ((256 ^ (i - l.length) : Nat) : Int) := by omega
      rw [Int.natCast_pow, Int.natCast_pow] at h6
      exact h6
    have e2 : 1 * (256 : Int) ^ (i - l.length) ≤ over * 256 ^ (i - l.length) := Int.mul_le_mul_of_nonneg_right (by omega) (Int.pow_nonneg (by omega))
    have e3 : (256 : Int) ^ 6 = 281474976710656 := by decide
    omega
theorem carryI.bound {l out : List Int} {over : Int} {i : Nat} (h : carryI l out over i) : -17179869184 ≤ over ∧ over ≤ 17179869184 := by
  obtain ⟨h1, h2, h3, h4, h5⟩ := h
  by_cases hi : i ≤ l.length
  · exact h4 hi
  · have h6 := h5 (by omega)
    have hp : (1 : Int) ≤ 256 ^ (i - l.length) := Int.pow_pos (by omega)
    have := Int.mul_le_mul_of_nonneg_left hp h6.1
    omega
theorem carryI.done {l out : List Int} {over : Int} {i : Nat} (h : carryI l out over i) (hi : l.length ≤ i) (hp : over ≤ 0) (hv : 0 ≤ vle l) : vle out = vle l := by
  obtain ⟨h1, h2, h3, h4, h5⟩ := h
  rw [List.drop_of_length_le hi] at h3
  simp only [vle, Int.add_zero] at h3
  have hlt := vle_lt out fun x hx => (h2 x hx).2
  rw [h1] at hlt
  by_cases h0 : over = 0
  · subst h0; rw [Int.mul_zero, Int.add_zero] at h3; exact h3
  · exfalso
    have hp2 : (0 : Int) < 256 ^ i := Int.pow_pos (by omega)
    have : 256 ^ i * over ≤ 256 ^ i * (-1) := Int.mul_le_mul_of_nonneg_left (by omega) (by omega)
    omega

/-- texts of one length are compared byte by byte -/
theorem val_lt_of_digit (p s t : List UInt8) (x y : UInt8) (hl : s.length = t.length) (h : x.toNat < y.toNat) : val (p ++ x :: s) < val (p ++ y :: t) := by
  rw [val_append, val_append, List.length_cons, List.length_cons, hl, val_cons, val_cons, hl]
  have h1 := val_lt s
  rw [hl] at h1
  have h2 : (x.toNat + 1) * 256 ^ t.length ≤ y.toNat * 256 ^ t.length := Nat.mul_le_mul_right _ h
  rw [Nat.add_mul] at h2
  omega
end Go.Proofs.Ytmcejefeloljiaa.Nm

/-
  Small laws for walks: a slice of ints, negative ones too, that the call itself made.
-/
namespace Go.Proofs.Ytmcejefeloljiaa
set_option linter.unusedVariables false
set_option linter.unusedSimpArgs false
open Go.RowKit

/-- The slice v, of numbers of kind k, owns the cells xs (from block B on). -/
def OwnI (w : World) (B : Nat) (E : TypeId) (k : IntKind) (v : Value) (xs : List Int) : Prop :=
  w.ownsRow B E 1 v xs.length (xs.map fun x => .int k x)

section
variable {w w' : World} {B : Nat} {E : TypeId} {k : IntKind} {v : Value} {xs : List Int}
theorem OwnI.shape (h : OwnI w B E k v xs) : ∃ oa cap, v = .slice oa xs.length cap ∧ (oa = none → xs = []) ∧ (∀ a, oa = some a → a = ⟨a.block, 0, none⟩ ∧ B ≤ a.block ∧ a.block < w.heap.size) ∧ xs.length ≤ cap ∧ cap ≤ maxLen := by
  rcases h.2 with ⟨rfl, hn⟩ | ⟨g, cap, cur, rfl, hb, hg, hle, hcm, _⟩
  · exact ⟨none, 0, by rw [hn], fun _ => List.eq_nil_of_length_eq_zero hn, (fun _ h => by cases h), by omega, by simp [maxLen]⟩
  · refine ⟨_, cap, rfl, (fun h => by cases h), (fun a h => ?_), hle, hcm⟩
    cases h
    exact ⟨rfl, hb, (Array.getElem?_eq_some_iff.1 hg).1⟩
/-- the slice's form, no more -/
theorem OwnI.shp (h : OwnI w B E k v xs) : ∃ oa cap, v = .slice oa xs.length cap ∧ xs.length ≤ cap ∧ cap ≤ 9223372036854775807 := by
  obtain ⟨oa, cap, hv, _, _, h1, h2⟩ := h.shape
  exact ⟨oa, cap, hv, h1, by simpa [maxLen] using h2⟩
theorem OwnI.cell {g n cap : Nat} (h : OwnI w B E k (.slice (some ⟨g, 0, none⟩) n cap) xs) (j : Nat) (hj : j < xs.length) :
    w.cell? ⟨g, j, none⟩ = some (.int k xs[j]) := by
  have hn : n = xs.length := by
    obtain ⟨oa, c, hv, _⟩ := h.shape
    cases hv; rfl
  subst hn
  rw [World.ownsRow.cellAt h j (by omega)]
  simp [hj]
theorem OwnI.frozen {g n cap : Nat} (h : OwnI w B E k (.slice (some ⟨g, 0, none⟩) n cap) xs) (j : Nat) : w.frozen? ⟨g, j, none⟩ = false := by
  have hn : n = xs.length := by
    obtain ⟨oa, c, hv, _⟩ := h.shape
    cases hv; rfl
  subst hn
  exact World.ownsRow.frozenAt h j
theorem OwnI.stored {g n cap : Nat} (h : OwnI w B E k (.slice (some ⟨g, 0, none⟩) n cap) xs) (j : Nat) (x : Int) :
    OwnI (w.setCell ⟨g, j, none⟩ (.int k x)) B E k (.slice (some ⟨g, 0, none⟩) n cap) (xs.set j x) ∧ w.grownBy (w.setCell ⟨g, j, none⟩ (.int k x)) (some g) := by
  have hn : n = xs.length := by
    obtain ⟨oa, c, hv, _⟩ := h.shape
    cases hv; rfl
  subst hn
  have := World.ownsRow.stored h j (.int k x)
  unfold OwnI
  rw [List.length_set, List.map_set]
  exact this
theorem OwnI.lt (h : OwnI w B E k v xs) : ∀ g, v.ownBlock = some g → B ≤ g ∧ g < w.heap.size := World.ownsRow.lt h
theorem OwnI.kept {row : Option Nat} (h : OwnI w B E k v xs) (hg : w.grownBy w' row) (hne : v.ownBlock = none ∨ v.ownBlock ≠ row) : OwnI w' B E k v xs :=
  World.ownsRow.kept h hg hne
theorem OwnI.alloc (h : OwnI w B E k v xs) (o : Obj) : OwnI (w.alloc o) B E k v xs := World.ownsRow.alloc h o
theorem OwnI.drew (h : OwnI w B E k v xs) : OwnI w.drew B E k v xs := h
theorem OwnI.drewN (h : OwnI w B E k v xs) (n : Nat) : OwnI (w.drewN n) B E k v xs := h
theorem OwnI.below (h : OwnI w B E k v xs) (hb : Below w.heap.size w w') : OwnI w' B E k v xs :=
  World.ownsRow.kept h (row := none) ⟨hb.os, hb.tape, hb.output, hb.size, fun i hi _ => hb.block i hi⟩ (by cases v.ownBlock <;> simp)
theorem OwnI.nil (w : World) (B : Nat) (E : TypeId) (k : IntKind) : OwnI w B E k (.slice none 0 0) [] := World.ownsRow_nil w B E 1
theorem OwnI.mono {B' : Nat} (h : OwnI w B E k v xs) (hB : B' ≤ B) : OwnI w B' E k v xs := by
  refine ⟨h.1, ?_⟩
  rcases h.2 with h2 | ⟨g, cap, cur, a, b, c⟩
  · exact .inl h2
  · exact .inr ⟨g, cap, cur, a, Nat.le_trans hB b, c⟩
theorem OwnI.made {n : Nat} {v : Value} (h : w.ownsRow B E 1 v n (madeCells #[.int k 0] n).toList) : OwnI w B E k v (List.replicate n 0) := by
  unfold OwnI
  rw [toList_madeCells_one] at h
  simpa using h
/-- cut at a shorter length -/
theorem OwnI.cut {oa : Option Addr} {n cap : Nat} (h : OwnI w B E k (.slice oa n cap) xs) (m : Nat) (hm : m ≤ xs.length) (hs : oa = none → m = 0) : OwnI w B E k (.slice oa m cap) (xs.take m) := by
  rcases h.2 with ⟨hv, hn⟩ | ⟨g, c, cur, hv, hb, hg, hle, hcm, hsz, htk⟩
  · cases hv
    have : m = 0 := hs rfl
    subst this
    simpa using OwnI.nil w B E k
  · cases hv
    have hl : (xs.take m).length = m := by rw [List.length_take]; omega
    refine ⟨by simp, .inr ⟨g, cap, cur, by rw [hl], hb, hg, by omega, hcm, hsz, ?_⟩⟩
    rw [hl, Nat.mul_one, List.map_take, ← htk, Nat.mul_one, List.take_take, Nat.min_eq_left hm]
end

/-- 'l = append(l, x)', l a slice of numbers of the call's own: the one element lies in a block just made. -/
theorem append1I {P : Program} (W : World) {ops : Array Oper} {rest : List Oper} {o : Oper} {a : Act} {Q : Exit → Act → World → Prop} (hgd : o.guard = none) (s x : Operand) (t : TypeId)
    (ho : o.op = .call { callee := .builtin .append, args := #[s, x], argTypes := #[t, t] })
    (B : Nat) (E : TypeId) (k : IntKind) (bytes : Nat) (hinfo : (P.info? E).map (fun i => (i.zero, i.size, i.bytes)) = some (some (.int k 0), 1, bytes)) (ht : P.underlying t = some (.slice E))
    (v : Value) (xs : List Int) (hown : OwnI W B E k v xs) (hs : a.eval s = v) (E' : TypeId) (z n : Int) (hz : z = n) (hx : a.eval x = .slice (some ⟨W.heap.size, 0, none⟩) 1 1)
    (hlen : xs.length + 1 ≤ 4294967296) (hb : bytes ≤ 8) (hB : B ≤ W.heap.size)
    (h : ∀ v' w', OwnI w' B E k v' (xs ++ [n]) → (W.alloc (.cells #[.int k z] E')).grownBy w' v.ownBlock → wpList P ops Q rest (a.put o.dst v') w') :
    wpList P ops Q (o :: rest) a (W.alloc (.cells #[.int k z] E')) := by
  obtain ⟨i, hi, h0, h1, h2⟩ := info_parts hinfo
  subst hz
  refine wpList_append_own _ hgd s x t ho B E i (.int k 0) 1 bytes ht hi h0 h1 h2 rfl (by decide) v xs.length _ hs (hown.alloc _) ⟨W.heap.size, 0, none⟩ 1 1 [.int k z] hx rfl (cell_one_new _ _ _) ?_ ?_ ?_ ?_ ?_
  · intro u hu; simp at hu; subst hu; rfl
  · unfold maxLen; omega
  · have : (xs.length + 1) * bytes ≤ 4294967296 * 8 := Nat.mul_le_mul hlen hb
    omega
  · simp; omega
  · intro v' w' h3 h4 _
    refine h v' w' ?_ h4
    unfold OwnI
    simpa using h3
theorem grown_belowI {B : Nat} {a W w' : World} {E' : TypeId} {u v : Value} {xs : List Int} {E : TypeId} {k : IntKind} (h : Below B a W) (hown : OwnI W B E k v xs) (hg : (W.alloc (.cells #[u] E')).grownBy w' v.ownBlock) (hB : B ≤ W.heap.size) : Below B a w' :=
  (h.alloc hB _).grown hg (by simp; omega) fun i hi => (hown.lt i hi).1
theorem OwnI.kept2 {w' W : World} {B : Nat} {E : TypeId} {k : IntKind} {v u : Value} {xs : List Int} {E' : TypeId} {z : Value} (h : OwnI W B E k v xs) (hg : (W.alloc (.cells #[z] E')).grownBy w' u.ownBlock) (hne : v.ownBlock = none ∨ v.ownBlock ≠ u.ownBlock) : OwnI w' B E k v xs :=
  (h.alloc _).kept hg hne

theorem OwnI.at {w : World} {B : Nat} {E : TypeId} {k : IntKind} {oa : Option Addr} {n cap : Nat} {xs : List Int} (h : OwnI w B E k (.slice oa n cap) xs) (hx : 0 < xs.length) : ∃ g, oa = some ⟨g, 0, none⟩ ∧ B ≤ g ∧ g < w.heap.size := by
  rcases h.2 with ⟨hv, hn⟩ | ⟨g, c, cur, hv, hb, hg, hle, hcm, hsz, htk⟩
  · omega
  · cases hv
    exact ⟨g, rfl, hb, (Array.getElem?_eq_some_iff.1 hg).1⟩
theorem OwnI.len {w : World} {B : Nat} {E : TypeId} {k : IntKind} {oa : Option Addr} {n cap : Nat} {xs : List Int} (h : OwnI w B E k (.slice oa n cap) xs) : n = xs.length := by
  obtain ⟨_, _, hv, _⟩ := h.shape
  cases hv; rfl

end Go.Proofs.Ytmcejefeloljiaa

/-
  The walks of the reference for naturals: Natural, Check, both, short, less, Compare.
-/
namespace Go.Proofs.Ytmcejefeloljiaa
set_option linter.unusedVariables false
set_option linter.unusedSimpArgs false
open Go.RowKit Nm

set_option maxHeartbeats 400000 in
theorem rNatural_any (s : ByteArray) (w : World) :
    Calls Try.prog 118 #[.string s] w fun e w' => e = .returned (.bool (isN s)) ∧ w = w' := by
  by_cases h0 : 0 < s.size
  · have h1 : s.toList.isEmpty = false := isEmpty_false h0
    go_enter Try.func118, Try.ntmps118
    go_wp2
    go_ret
    exact ⟨ret_bool (isN_pos h0).symm, rfl⟩
  · have h1 : s.toList.isEmpty = true := isEmpty_true h0
    go_enter Try.func118, Try.ntmps118
    go_wp2
    go_ret
    exact ⟨ret_bool (isN_nil h0).symm, rfl⟩

theorem chk1_no {s : ByteArray} (h : isN s = false) : chkN [s] = 60 := by simp [chkN, h]
theorem chk1_big {s : ByteArray} (h : isN s = true) (h2 : 256 < s.size) : chkN [s] = 2 := by simp [chkN, h]; omega
theorem chk1_ok {s : ByteArray} (h : isN s = true) (h2 : s.size ≤ 256) : chkN [s] = 0 := by simp [chkN, h]; omega
theorem chk2_no {a b : ByteArray} (h : isN a = false ∨ isN b = false) : chkN [a, b] = 60 := by rcases h with h | h <;> simp [chkN, h]
theorem chk2_big {a b : ByteArray} (h : isN a = true) (h' : isN b = true) (h2 : 256 < a.size ∨ 256 < b.size) : chkN [a, b] = 2 := by simp [chkN, h, h']; omega

set_option maxHeartbeats 400000 in
theorem rCheck_any (s : ByteArray) (w : World) (hs : s.size ≤ maxLen) :
    Calls Try.prog 61 #[.string s] w fun e w' => e = .returned (.int .i64 (chkN [s])) ∧ w = w' := by
  have hN := fun w => rNatural_any s w
  by_cases hn : isN s = true
  · by_cases h2 : s.size ≤ 256
    · rw [chk1_ok hn h2]
      rw [hn] at hN
      have HN := Lib.hid hN
      clear hn hN
      go_enter Try.func61, Try.ntmps61
      go_wp2_with fail
      refine (HN.out _).mono ?_
      rintro e w1 ⟨rfl, rfl⟩
      go_wp2_with fail
      go_ret
      exact ⟨rfl, rfl⟩
    · have h2 : 256 < s.size := by omega
      rw [chk1_big hn h2]
      rw [hn] at hN
      have HN := Lib.hid hN
      clear hn hN
      go_enter Try.func61, Try.ntmps61
      go_wp2_with fail
      refine (HN.out _).mono ?_
      rintro e w1 ⟨rfl, rfl⟩
      go_wp2_with fail
      go_ret
      exact ⟨rfl, rfl⟩
  · have hn : isN s = false := by simpa using hn
    rw [chk1_no hn]
    rw [hn] at hN
    have HN := Lib.hid hN
    clear hn hN
    go_enter Try.func61, Try.ntmps61
    go_wp2_with fail
    refine (HN.out _).mono ?_
    rintro e w1 ⟨rfl, rfl⟩
    go_wp2_with fail
    go_ret
    exact ⟨rfl, rfl⟩

-- GEN
set_option maxHeartbeats 400000 in
theorem both_1 (a b : ByteArray) (w : World) (ha : isN a = false) :
    Calls Try.prog 110 #[.string a, .string b] w fun e w' => e = .returned (.int .i64 60) ∧ w = w' := by
  have Ha := Lib.hid (fun w => by have h_ := rNatural_any a w; rw [ha] at h_; exact h_)
  clear ha
  go_enter Try.func110, Try.ntmps110
  go_wp2_with fail
  refine (Ha.out _).mono ?_
  rintro e w1 ⟨rfl, rfl⟩
  go_wp2_with fail
  go_ret
  exact ⟨rfl, rfl⟩

set_option maxHeartbeats 400000 in
theorem both_2 (a b : ByteArray) (w : World) (ha : isN a = true) (hb : isN b = false) :
    Calls Try.prog 110 #[.string a, .string b] w fun e w' => e = .returned (.int .i64 60) ∧ w = w' := by
  have Ha := Lib.hid (fun w => by have h_ := rNatural_any a w; rw [ha] at h_; exact h_)
  clear ha
  have Hb := Lib.hid (fun w => by have h_ := rNatural_any b w; rw [hb] at h_; exact h_)
  clear hb
  go_enter Try.func110, Try.ntmps110
  go_wp2_with fail
  refine (Ha.out _).mono ?_
  rintro e w1 ⟨rfl, rfl⟩
  go_wp2_with fail
  refine (Hb.out _).mono ?_
  rintro e w1 ⟨rfl, rfl⟩
  go_wp2_with fail
  go_ret
  exact ⟨rfl, rfl⟩

set_option maxHeartbeats 400000 in
theorem both_3 (a b : ByteArray) (w : World) (ha : isN a = true) (hb : isN b = true) (h1 : 256 < a.size) :
    Calls Try.prog 110 #[.string a, .string b] w fun e w' => e = .returned (.int .i64 2) ∧ w = w' := by
  have Ha := Lib.hid (fun w => by have h_ := rNatural_any a w; rw [ha] at h_; exact h_)
  clear ha
  have Hb := Lib.hid (fun w => by have h_ := rNatural_any b w; rw [hb] at h_; exact h_)
  clear hb
  go_enter Try.func110, Try.ntmps110
  go_wp2_with fail
  refine (Ha.out _).mono ?_
  rintro e w1 ⟨rfl, rfl⟩
  go_wp2_with fail
  refine (Hb.out _).mono ?_
  rintro e w1 ⟨rfl, rfl⟩
  go_wp2_with fail
  go_ret
  exact ⟨rfl, rfl⟩

set_option maxHeartbeats 400000 in
theorem both_4 (a b : ByteArray) (w : World) (ha : isN a = true) (hb : isN b = true) (h1 : a.size ≤ 256) (h2 : 256 < b.size) :
    Calls Try.prog 110 #[.string a, .string b] w fun e w' => e = .returned (.int .i64 2) ∧ w = w' := by
  have Ha := Lib.hid (fun w => by have h_ := rNatural_any a w; rw [ha] at h_; exact h_)
  clear ha
  have Hb := Lib.hid (fun w => by have h_ := rNatural_any b w; rw [hb] at h_; exact h_)
  clear hb
  go_enter Try.func110, Try.ntmps110
  go_wp2_with fail
  refine (Ha.out _).mono ?_
  rintro e w1 ⟨rfl, rfl⟩
  go_wp2_with fail
  refine (Hb.out _).mono ?_
  rintro e w1 ⟨rfl, rfl⟩
  go_wp2_with fail
  go_ret
  exact ⟨rfl, rfl⟩

set_option maxHeartbeats 400000 in
theorem both_5 (a b : ByteArray) (w : World) (ha : isN a = true) (hb : isN b = true) (h1 : a.size ≤ 256) (h2 : b.size ≤ 256) :
    Calls Try.prog 110 #[.string a, .string b] w fun e w' => e = .returned (.int .i64 0) ∧ w = w' := by
  have Ha := Lib.hid (fun w => by have h_ := rNatural_any a w; rw [ha] at h_; exact h_)
  clear ha
  have Hb := Lib.hid (fun w => by have h_ := rNatural_any b w; rw [hb] at h_; exact h_)
  clear hb
  go_enter Try.func110, Try.ntmps110
  go_wp2_with fail
  refine (Ha.out _).mono ?_
  rintro e w1 ⟨rfl, rfl⟩
  go_wp2_with fail
  refine (Hb.out _).mono ?_
  rintro e w1 ⟨rfl, rfl⟩
  go_wp2_with fail
  go_ret
  exact ⟨rfl, rfl⟩

theorem both_any (a b : ByteArray) (w : World) :
    Calls Try.prog 110 #[.string a, .string b] w fun e w' => e = .returned (.int .i64 (chkN [a, b])) ∧ w = w' := by
  by_cases ha : isN a = true
  · by_cases hb : isN b = true
    · by_cases h1 : a.size ≤ 256
      · by_cases h2 : b.size ≤ 256
        · rw [chk2_of ha hb h1 h2]; exact both_5 a b w ha hb h1 h2
        · rw [chk2_big ha hb (by omega)]; exact both_4 a b w ha hb h1 (by omega)
      · rw [chk2_big ha hb (by omega)]; exact both_3 a b w ha hb (by omega)
    · rw [chk2_no (by simp [hb])]; exact both_2 a b w ha (by simpa using hb)
  · rw [chk2_no (by simp [ha])]; exact both_1 a b w (by simpa using ha)

set_option maxHeartbeats 400000 in
theorem rshort_a (s : ByteArray) (w : World) (h : s.size ≤ 256) :
    Calls Try.prog 114 #[.string s] w fun e w' => e = .returned (.tuple #[.string (s, 0).1, .int .i64 (s, 0).2]) ∧ w = w' := by
  go_enter Try.func114, Try.ntmps114
  go_wp2_with fail
  go_ret2
  exact ⟨rfl, rfl⟩

set_option maxHeartbeats 400000 in
theorem rshort_b (s : ByteArray) (w : World) (h : 256 < s.size) :
    Calls Try.prog 114 #[.string s] w fun e w' => e = .returned (.tuple #[.string (bE, 2).1, .int .i64 (bE, 2).2]) ∧ w = w' := by
  go_enter Try.func114, Try.ntmps114
  go_wp2_with fail
  go_ret2
  exact ⟨rfl, rfl⟩

theorem rshort_any (n : Nat) (w : World) :
    Calls Try.prog 114 #[.string (encS n)] w fun e w' => e = .returned (.tuple #[.string (shortN n).1, .int .i64 (shortN n).2]) ∧ w = w' := by
  by_cases h : (encS n).size ≤ 256
  · rw [show shortN n = (encS n, 0) from if_pos h]; exact rshort_a _ w h
  · rw [show shortN n = (bE, 2) from if_neg h]; exact rshort_b _ w (by omega)

theorem drewN2 (w : World) (a b : Nat) : (w.drewN a).drewN b = w.drewN (a + b) := by unfold World.drewN; simp only [Nat.add_assoc]
theorem nv_lt_of_size {a b : ByteArray} (hb : isN b = true) (h : a.size < b.size) : nv a < nv b := by
  have h1 : nv a < 256 ^ a.size := by
    have := val_lt a.data.toList
    rw [sdata_length] at this
    exact this
  have h2 : (enc (nv b)).length = b.size := by
    have := congrArg ByteArray.size (encS_nv b hb)
    rw [size_encS] at this
    exact this
  apply Decidable.byContradiction
  intro hc
  have h3 := (enc_length_le (nv b) a.size).2 (by omega)
  omega
theorem nv_lt_of_byte {a b : ByteArray} (hs : a.size = b.size) (k : Nat) (ha : k < a.size) (hb : k < b.size) (ht : a.data.toList.take k = b.data.toList.take k) (h : a[k].toNat < b[k].toNat) : nv a < nv b := by
  have la := sdata_length a
  have lb := sdata_length b
  have e1 : a.data.toList = a.data.toList.take k ++ a[k] :: a.data.toList.drop (k + 1) := by
    conv => lhs; rw [← List.take_append_drop k a.data.toList, List.drop_eq_getElem_cons (by omega)]
    rfl
  have e2 : b.data.toList = b.data.toList.take k ++ b[k] :: b.data.toList.drop (k + 1) := by
    conv => lhs; rw [← List.take_append_drop k b.data.toList, List.drop_eq_getElem_cons (by omega)]
    rfl
  show val a.data.toList < val b.data.toList
  rw [e1, e2, ht]
  exact val_lt_of_digit _ _ _ _ _ (by rw [List.length_drop, List.length_drop]; omega) h
theorem take_same {a b : ByteArray} (k : Nat) (ha : k < a.size) (hb : k < b.size) (ht : a.data.toList.take k = b.data.toList.take k) (h : (a[k].toNat : Int) = (b[k].toNat : Int)) : a.data.toList.take (k + 1) = b.data.toList.take (k + 1) := by
  have la := sdata_length a
  have lb := sdata_length b
  rw [List.take_succ_eq_append_getElem (by omega), List.take_succ_eq_append_getElem (by omega), ht]
  congr 2
  show a[k] = b[k]
  exact UInt8.toNat_inj.1 (by omega)

set_option maxHeartbeats 1000000 in
theorem less_ref (a b : ByteArray) (w : World) (ha : isN a = true) (hb : isN b = true) (hsa : a.size ≤ maxLen) (hsb : b.size ≤ maxLen) :
    Calls Try.prog 121 #[.string a, .string b] w fun e w' => e = .returned (.bool (decide (nv a < nv b))) ∧ ∃ k, w' = w.drewN k := by
  unfold maxLen at hsa hsb
  by_cases hs : a.size = b.size
  · have HS := Lib.hid hs
    have i1 : a.size ≤ b.size := by omega
    have i2 : b.size ≤ a.size := by omega
    clear hs ha hb
    go_enter Try.func121, Try.ntmps121
    go_wp2_with fail
    go_loopw [5] (fun i wr => ∃ k : Nat, k ≤ a.size ∧ i = .int .i64 (k : Int) ∧ a.data.toList.take k = b.data.toList.take k ∧ ∃ nq, wr = w.drewN nq) (fun i _ => a.size - (intOf i).toNat)
    case atStart => exact ⟨0, Nat.zero_le _, rfl, rfl, 0, rfl⟩
    case round =>
      obtain ⟨k, hk, rfl, ht, nq, rfl⟩ := hrel
      have HT := Lib.hid ht; clear ht
      by_cases h0 : k < a.size
      · have h0b : k < b.size := by omega
        by_cases h1 : a[k].toNat < b[k].toNat
        · go_wp2_with fail
          go_quiet (fail)
          go_wp2_with fail
          go_quiet (fail)
          go_wp2_with fail
          go_wp2_with fail
          go_ret
          exact ⟨ret_bool (decide_eq_true (nv_lt_of_byte HS.out k h0 h0b HT.out h1)).symm, _, by rw [drewN2, drewN2]⟩
        · by_cases h2 : b[k].toNat < a[k].toNat
          · go_wp2_with fail
            go_quiet (fail)
            go_wp2_with fail
            go_quiet (fail)
            go_wp2_with fail
            go_wp2_with fail
            go_ret
            exact ⟨ret_bool (decide_eq_false (Nat.lt_asymm (nv_lt_of_byte HS.out.symm k h0b h0 HT.out.symm h2))).symm, _, by rw [drewN2, drewN2]⟩
          · go_wp2_with fail
            go_quiet (fail)
            go_wp2_with fail
            go_roundw
            case rel => exact ⟨k + 1, by omega, by go_num, take_same k h0 h0b HT.out (by omega), _, rfl⟩
            case measure => simp [intOf]; omega
      · go_wp2_with fail
        go_ret
        have e : a.data.toList = b.data.toList := by
          have h := HT.out
          have la := sdata_length a
          have lb := sdata_length b
          rw [List.take_of_length_le (by omega), List.take_of_length_le (by omega)] at h
          exact h
        exact ⟨ret_bool (decide_eq_false (by show ¬ val a.data.toList < val b.data.toList; rw [e]; omega)).symm, nq, rfl⟩
  · by_cases h1 : a.size < b.size
    · have hl := Lib.hid (nv_lt_of_size hb h1)
      clear hs ha hb
      go_enter Try.func121, Try.ntmps121
      go_wp2_with fail
      go_ret
      exact ⟨ret_bool (by rw [decide_eq_true hl.out]), 0, rfl⟩
    · have h1 : b.size < a.size := by omega
      have hl := Lib.hid (nv_lt_of_size ha h1)
      clear hs ha hb
      go_enter Try.func121, Try.ntmps121
      go_wp2_with fail
      go_ret
      exact ⟨ret_bool (by rw [decide_eq_false (Nat.lt_asymm hl.out)]), 0, rfl⟩

end Go.Proofs.Ytmcejefeloljiaa

/-
  The walks of the reference for naturals: Compare, Of, Int.
-/
namespace Go.Proofs.Ytmcejefeloljiaa
set_option linter.unusedVariables false
set_option linter.unusedSimpArgs false
open Go.RowKit Nm

theorem cmp_cases (a b : ByteArray) (h : chkN [a, b] = 0) :
    (nv a < nv b ∧ cmpF a b = (-1, 0)) ∨ (¬ nv a < nv b ∧ nv b < nv a ∧ cmpF a b = (1, 0)) ∨ (¬ nv a < nv b ∧ ¬ nv b < nv a ∧ cmpF a b = (0, 0)) := by
  unfold cmpF
  rw [if_pos h]
  by_cases h1 : nv a < nv b
  · exact Or.inl ⟨h1, by rw [cmpN_lt h1]⟩
  · by_cases h2 : nv b < nv a
    · exact Or.inr (Or.inl ⟨h1, h2, by rw [cmpN_gt h2]⟩)
    · exact Or.inr (Or.inr ⟨h1, h2, by rw [cmpN_eq (by omega)]⟩)

set_option maxHeartbeats 1000000 in
theorem rCompare_any (a b : ByteArray) (w : World) (hsa : a.size ≤ maxLen) (hsb : b.size ≤ maxLen) :
    Calls Try.prog 65 #[.string a, .string b] w fun e w' => e = .returned (.tuple #[.int .i64 (cmpF a b).1, .int .i64 (cmpF a b).2]) ∧ ∃ k, w' = w.drewN k := by
  have h_ := fun w => both_any a b w
  by_cases h : chkN [a, b] = 0
  · obtain ⟨n1, n2, s1, s2⟩ := chk2_zero h
    rw [h] at h_
    have HB := Lib.hid h_
    have l1 := fun w => less_ref a b w n1 n2 hsa hsb
    have l2 := fun w => less_ref b a w n2 n1 hsb hsa
    obtain ⟨c1, e⟩ | ⟨c1, c2, e⟩ | ⟨c1, c2, e⟩ := cmp_cases a b h
    · rw [e]
      rw [decide_eq_true c1] at l1
      have L1 := Lib.hid l1
      clear l1 l2 h_ h e c1 n1 n2 s1 s2
      go_enter Try.func65, Try.ntmps65
      go_wp2_with fail
      refine (HB.out _).mono ?_
      rintro e w1 ⟨rfl, rfl⟩
      go_wp2_with fail
      refine (L1.out _).mono ?_
      rintro e w1 ⟨rfl, k, rfl⟩
      go_wp2_with fail
      go_ret2
      exact ⟨rfl, _, rfl⟩
    · rw [e]
      rw [decide_eq_false c1] at l1
      rw [decide_eq_true c2] at l2
      have L1 := Lib.hid l1
      have L2 := Lib.hid l2
      clear l1 l2 h_ h e c1 c2 n1 n2 s1 s2
      go_enter Try.func65, Try.ntmps65
      go_wp2_with fail
      refine (HB.out _).mono ?_
      rintro e w1 ⟨rfl, rfl⟩
      go_wp2_with fail
      refine (L1.out _).mono ?_
      rintro e w1 ⟨rfl, k, rfl⟩
      go_wp2_with fail
      refine (L2.out _).mono ?_
      rintro e w1 ⟨rfl, k', rfl⟩
      go_wp2_with fail
      go_ret2
      exact ⟨rfl, _, rfl⟩
    · rw [e]
      rw [decide_eq_false c1] at l1
      rw [decide_eq_false c2] at l2
      have L1 := Lib.hid l1
      have L2 := Lib.hid l2
      clear l1 l2 h_ h e c1 c2 n1 n2 s1 s2
      go_enter Try.func65, Try.ntmps65
      go_wp2_with fail
      refine (HB.out _).mono ?_
      rintro e w1 ⟨rfl, rfl⟩
      go_wp2_with fail
      refine (L1.out _).mono ?_
      rintro e w1 ⟨rfl, k, rfl⟩
      go_wp2_with fail
      refine (L2.out _).mono ?_
      rintro e w1 ⟨rfl, k', rfl⟩
      go_wp2_with fail
      go_ret2
      exact ⟨rfl, _, rfl⟩
  · have E : Hid (cmpF a b = (0, chkN [a, b])) := Lib.hid (if_neg h)
    have HB := Lib.hid h_
    have h2 : (chkN [a, b] != 0) = true := by simpa using h
    clear h_ h
    go_enter Try.func65, Try.ntmps65
    go_wp2_with fail
    refine (HB.out _).mono ?_
    rintro e w1 ⟨rfl, rfl⟩
    go_wp2_with fail
    go_ret2
    exact ⟨by rw [E.out]; rfl, 0, rfl⟩

theorem enc_len8 {n : Nat} (h : n < 9223372036854775808) : (enc n).length ≤ 8 := by
  rw [enc_length_le]
  exact Nat.lt_trans h (by decide)

theorem str1 {P : Program} (w : World) (x : Nat) (z : Int) (hz : z = (x : Int)) (_hx : x < 256) (src dst E : TypeId) (hs : P.underlying src = some (.slice E)) (he : P.underlying E = some (.int .u8)) (hd : P.underlying dst = some .string) :
    (convert src dst (.slice (some ⟨w.heap.size, 0, none⟩) 1 1)).run P (w.alloc (.cells #[.int .u8 z] E)) = .ok (.string ⟨#[UInt8.ofNat x]⟩) (w.alloc (.cells #[.int .u8 z] E)) := by
  subst hz
  rw [run_convert_bytes_arg (P := P) _ src E hs he w.heap.size 0 1 1 [((x : Nat) : Int)] (by simp) (fun i hi => by
    obtain rfl : i = 0 := by simp at hi; omega
    exact cell_one_new _ _ _ 0 _ rfl) dst hd]
  simp [strOfNums]

set_option maxHeartbeats 1000000 in
theorem rOf_any (n : Int) (w : World) (h1 : -9223372036854775808 ≤ n) (h2 : n ≤ 9223372036854775807) :
    Calls Try.prog 104 #[.int .i64 n] w fun e w' => e = .returned (.tuple #[.string (ofF n).1, .int .i64 (ofF n).2]) ∧ Below w.heap.size w w' := by
  by_cases hn : n < 0
  · have E : Hid (ofF n = (bE, 1)) := Lib.hid (if_pos hn)
    go_enter Try.func104, Try.ntmps104
    go_wp2_with fail
    go_ret2
    exact ⟨by rw [E.out]; rfl, Below.refl _ _⟩
  · obtain ⟨N, rfl⟩ := Int.eq_ofNat_of_zero_le (show 0 ≤ n by omega)
    have E : Hid (ofF ↑N = (encS N, 0)) := Lib.hid (by rw [ofF, if_neg (by omega)]; rfl)
    have h8 := enc_len8 (show N < 9223372036854775808 by omega)
    have H8 := Lib.hid h8
    clear h8
    go_enter Try.func104, Try.ntmps104
    go_wp2_with fail
    go_loopw [4, 0] (fun s n wr => ∃ (m : Nat) (t : ByteArray), m ≤ N ∧ n = .int .i64 (m : Int) ∧ s = .string t ∧ enc m ++ t.data.toList = enc N ∧ Below w.heap.size w wr) (fun _ n _ => (intOf n).toNat)
    case atStart => exact ⟨N, ⟨#[]⟩, Nat.le_refl _, rfl, rfl, by simp, Below.refl _ _⟩
    case round =>
      obtain ⟨m, t, hm, rfl, rfl, he, hbl⟩ := hrel
      have HE := Lib.hid he; clear he
      by_cases h0 : 0 < m
      · have hsz : t.size ≤ 8 := by
          have h := congrArg List.length HE.out
          rw [List.length_append, sdata_length] at h
          have := H8.out
          omega
        have hcv := fun d hd => str1 (P := Try.prog) wr (m % 256) ((m : Int) % 256) (by omega) (by omega) 149 d 5 Try.underlying149 Try.underlying5 hd
        go_wp2_with fail
        go_roundw
        case rel =>
          refine ⟨m / 256, _, by omega, by rw [show ((m / 256 : Nat) : Int) = (m : Int) / 256 by omega], rfl, ?_, hbl.alloc hbl.size _⟩
          have h := HE.out
          rw [enc_pos m h0, List.append_assoc] at h
          rw [← h]
          simp
        case measure => simp [intOf]; omega
      · obtain rfl : m = 0 := by omega
        have e : encS N = t := by
          have h := HE.out
          rw [enc_zero, List.nil_append] at h
          show (⟨(enc N).toArray⟩ : ByteArray) = t
          rw [← h]
        go_wp2_with fail
        go_ret2
        exact ⟨by rw [E.out, e]; rfl, hbl⟩

theorem head_big {s : ByteArray} (h8 : s.size = 8) : (128 ≤ s[0].toNat ↔ ¬ nv s < 9223372036854775808) := by
  have e : s.data.toList = s[0] :: s.data.toList.drop 1 := by
    have := sdata_length s
    conv => lhs; rw [← List.take_append_drop 1 s.data.toList]
    rw [List.take_succ_eq_append_getElem (by omega)]
    rfl
  have l : (s.data.toList.drop 1).length = 7 := by
    rw [List.length_drop, sdata_length]; omega
  have hv : nv s = s[0].toNat * 256 ^ 7 + val (s.data.toList.drop 1) := by
    show val s.data.toList = _
    rw [e, val_cons, l]
    simp
  have h1 := val_lt (s.data.toList.drop 1)
  rw [l] at h1
  have e7 : 256 ^ 7 = 72057594037927936 := by decide
  rw [e7] at h1 hv
  omega
theorem size_small {s : ByteArray} (h : s.size < 8) : nv s < 9223372036854775808 := by
  have h1 := val_lt s.data.toList
  rw [sdata_length] at h1
  have : 256 ^ s.size ≤ 256 ^ 7 := Nat.pow_le_pow_right (by omega) (by omega)
  have e7 : 256 ^ 7 = 72057594037927936 := by decide
  show val s.data.toList < _
  omega
theorem val_take_succ {s : ByteArray} (k : Nat) (h : k < s.size) : val (s.data.toList.take (k + 1)) = val (s.data.toList.take k) * 256 + s[k].toNat := by
  rw [List.take_succ_eq_append_getElem (by rw [sdata_length]; exact h), val_snoc]
  rfl
theorem val_take_le {s : ByteArray} (k : Nat) : val (s.data.toList.take k) ≤ nv s := by
  show _ ≤ val s.data.toList
  conv => rhs; rw [← List.take_append_drop k s.data.toList, val_append]
  have : 1 ≤ 256 ^ (s.data.toList.drop k).length := Nat.pow_pos (by omega)
  have := Nat.mul_le_mul_left (val (s.data.toList.take k)) this
  omega

set_option maxRecDepth 8000 in
set_option maxHeartbeats 1000000 in
theorem rInt_no (s : ByteArray) (w : World) (hs : s.size ≤ maxLen) (h : isN s = false ∨ (isN s = true ∧ (8 < s.size ∨ (s.size = 8 ∧ 128 ≤ s[0]!.toNat)))) :
    Calls Try.prog 117 #[.string s] w fun e w' => e = .returned (.tuple #[.int .i64 0, .bool false]) ∧ w = w' := by
  have h_ := fun w => rNatural_any s w
  unfold maxLen at hs
  rcases h with h | ⟨h, h1 | ⟨h1, h2⟩⟩
  · rw [h] at h_
    have HN := Lib.hid h_
    clear h_ h
    go_enter Try.func117, Try.ntmps117
    go_wp2_with fail
    refine (HN.out _).mono ?_
    rintro e w1 ⟨rfl, rfl⟩
    go_wp2_with fail
    go_ret2
    exact ⟨rfl, rfl⟩
  · rw [h] at h_
    have HN := Lib.hid h_
    clear h_ h
    go_enter Try.func117, Try.ntmps117
    go_wp2_with fail
    refine (HN.out _).mono ?_
    rintro e w1 ⟨rfl, rfl⟩
    go_wp2_with fail
    go_ret2
    exact ⟨rfl, rfl⟩
  · rw [h] at h_
    have HN := Lib.hid h_
    clear h_ h
    have i1 : s.size ≤ 8 := by omega
    have i2 : 8 ≤ s.size := by omega
    have i3 : 0 < s.size := by omega
    have h2' : 128 ≤ (s[0]'i3).toNat := by
      have : s[0]! = s[0]'i3 := by simp [i3]
      rw [← this]; exact h2
    clear h2 h1
    go_enter Try.func117, Try.ntmps117
    go_wp2_with fail
    refine (HN.out _).mono ?_
    rintro e w1 ⟨rfl, rfl⟩
    go_wp2_with fail
    go_ret2
    exact ⟨rfl, rfl⟩

set_option maxRecDepth 8000 in
set_option maxHeartbeats 1000000 in
theorem rInt_yes (s : ByteArray) (w : World) (h : isN s = true) (h8 : s.size ≤ 8) (hv : nv s < 9223372036854775808) :
    Calls Try.prog 117 #[.string s] w fun e w' => e = .returned (.tuple #[.int .i64 ((nv s : Nat) : Int), .bool true]) ∧ w = w' := by
  have h_ := fun w => rNatural_any s w
  rw [h] at h_
  have HN := Lib.hid h_
  by_cases h1 : s.size < 8
  · clear h8
    have HV := Lib.hid hv
    clear h_ h hv
    go_enter Try.func117, Try.ntmps117
    go_wp2_with fail
    refine (HN.out _).mono ?_
    rintro e w1 ⟨rfl, rfl⟩
    go_wp2_with fail
    go_loopw [4, 5] (fun n i wr => ∃ k x : Nat, k ≤ s.size ∧ n = .int .i64 (x : Int) ∧ i = .int .i64 (k : Int) ∧ x = val (s.data.toList.take k) ∧ w = wr) (fun _ i _ => s.size - (intOf i).toNat)
    case atStart => exact ⟨0, 0, Nat.zero_le _, rfl, rfl, by simp [val_nil], rfl⟩
    case round =>
      obtain ⟨k, x, hk, rfl, rfl, hx, rfl⟩ := hrel
      have HX := Lib.hid hx
      clear hx
      by_cases h0 : k < s.size
      · have HS : Hid (256 * x + s[k].toNat = val (s.data.toList.take (k + 1))) := Lib.hid (by rw [val_take_succ k h0, ← HX.out, Nat.mul_comm])
        have hl : 256 * x + s[k].toNat < 9223372036854775808 := Nat.lt_of_le_of_lt (by rw [HS.out]; exact val_take_le (k + 1)) HV.out
        have hl2 : 256 * (x : Int) + (s[k].toNat : Int) < 9223372036854775808 := by omega
        clear hl
        go_wp2_with fail
        go_roundw
        case rel => exact ⟨k + 1, 256 * x + s[k].toNat, by omega, by go_num, by go_num, HS.out, trivial⟩
        case measure => simp [intOf]; omega
      · go_wp2_with fail
        go_ret2
        have e : x = nv s := by
          rw [HX.out, List.take_of_length_le (by rw [sdata_length]; omega)]
          rfl
        exact ⟨by rw [← e]; rfl, rfl⟩
  · have i2 : 8 ≤ s.size := by omega
    have i3 : 0 < s.size := by omega
    have h2 : (s[0]'i3).toNat < 128 := by
      have := head_big (s := s) (by omega)
      omega
    clear h1
    have HV := Lib.hid hv
    clear h_ h hv
    go_enter Try.func117, Try.ntmps117
    go_wp2_with fail
    refine (HN.out _).mono ?_
    rintro e w1 ⟨rfl, rfl⟩
    go_wp2_with fail
    generalize (s[0]'i3).toNat = b0 at *
    rename_i q1 q2 q3 q4 q5
    clear q2 h8
    go_loopw [4, 5] (fun n i wr => ∃ k x : Nat, k ≤ s.size ∧ n = .int .i64 (x : Int) ∧ i = .int .i64 (k : Int) ∧ x = val (s.data.toList.take k) ∧ w = wr) (fun _ i _ => s.size - (intOf i).toNat)
    case atStart => exact ⟨0, 0, Nat.zero_le _, rfl, rfl, by simp [val_nil], rfl⟩
    case round =>
      obtain ⟨k, x, hk, rfl, rfl, hx, rfl⟩ := hrel
      have HX := Lib.hid hx
      clear hx
      by_cases h0 : k < s.size
      · have HS : Hid (256 * x + s[k].toNat = val (s.data.toList.take (k + 1))) := Lib.hid (by rw [val_take_succ k h0, ← HX.out, Nat.mul_comm])
        have hl : 256 * x + s[k].toNat < 9223372036854775808 := Nat.lt_of_le_of_lt (by rw [HS.out]; exact val_take_le (k + 1)) HV.out
        have hl2 : 256 * (x : Int) + (s[k].toNat : Int) < 9223372036854775808 := by omega
        clear hl
        go_wp2_with fail
        go_roundw
        case rel => exact ⟨k + 1, 256 * x + s[k].toNat, by omega, by go_num, by go_num, HS.out, trivial⟩
        case measure => simp [intOf]; omega
      · go_wp2_with fail
        go_ret2
        have e : x = nv s := by
          rw [HX.out, List.take_of_length_le (by rw [sdata_length]; omega)]
          rfl
        exact ⟨by rw [← e]; rfl, rfl⟩

set_option maxRecDepth 8000 in
theorem rInt_any (s : ByteArray) (w : World) (hs : s.size ≤ maxLen) :
    Calls Try.prog 117 #[.string s] w fun e w' => e = .returned (.tuple #[.int .i64 (intF s).1, .bool (intF s).2]) ∧ w = w' := by
  by_cases h : isN s = true ∧ s.size ≤ 8 ∧ nv s < 9223372036854775808
  · rw [show intF s = (((nv s : Nat) : Int), true) from if_pos h]
    exact rInt_yes s w h.1 h.2.1 h.2.2
  · rw [show intF s = (0, false) from if_neg h]
    refine rInt_no s w hs ?_
    by_cases hn : isN s = true
    · refine Or.inr ⟨hn, ?_⟩
      by_cases h8 : 8 < s.size
      · exact Or.inl h8
      · have hv : ¬ nv s < 9223372036854775808 := fun hv => h ⟨hn, by omega, hv⟩
        by_cases h9 : s.size < 8
        · exact absurd (size_small h9) hv
        · have h10 : s.size = 8 := by omega
          refine Or.inr ⟨h10, ?_⟩
          have i3 : 0 < s.size := by omega
          have : s[0]! = s[0]'i3 := by simp [i3]
          rw [this]
          exact (head_big h10).2 hv
    · exact Or.inl (by simpa using hn)

end Go.Proofs.Ytmcejefeloljiaa

/-
  The walks of the reference for naturals: digits, at, number, carry.
-/
namespace Go.Proofs.Ytmcejefeloljiaa
set_option linter.unusedVariables false
set_option linter.unusedSimpArgs false
open Go.RowKit Nm

theorem info_i64 : (Try.prog.info? 3).map (fun i => (i.zero, i.size, i.bytes)) = some (some (.int .i64 0), 1, 8) := by kernel_rfl
abbrev OwnZ (w : World) (B : Nat) (v : Value) (xs : List Int) : Prop := OwnI w B 3 .i64 v xs

theorem OwnZ.lit0 (w : World) : OwnZ (w.alloc (.cells #[] 3)) w.heap.size (.slice (some ⟨w.heap.size, 0, none⟩) 0 0) [] := by
  have h := World.ownsRow_lit (base := w.heap.size) (e := 3) (size := 1) w #[] 0 (Nat.le_refl _) (by simp [maxLen]) rfl
  exact h

theorem wrapB (b : UInt8) : wrap64 ((b.toNat : Nat) : Int) = ((b.toNat : Nat) : Int) := by
  have := b.toNat_lt
  unfold wrap64
  omega

set_option maxHeartbeats 1000000 in
theorem digits_any (s : ByteArray) (w : World) (hs : s.size ≤ 4096) :
    Calls Try.prog 112 #[.string s] w fun e w' => ∃ v, e = .returned v ∧ OwnZ w' w.heap.size v (dgi s.data.toList) ∧ Below w.heap.size w w' := by
  go_enter Try.func112, Try.ntmps112
  go_wp2_with fail
  go_loopw [3, 4] (fun l i wr => ∃ k : Nat, k ≤ s.size ∧ i = .int .i64 ((k : Int) - 1) ∧ OwnZ wr w.heap.size l (dgi (s.data.toList.drop k)) ∧ Below w.heap.size w wr) (fun _ i _ => (intOf i + 1).toNat)
  case atStart =>
    refine ⟨s.size, Nat.le_refl _, rfl, ?_, (Below.refl _ _).alloc (Nat.le_refl _) _⟩
    rw [List.drop_of_length_le (by rw [sdata_length]; omega)]
    exact OwnZ.lit0 w
  case round =>
    obtain ⟨k, hk, rfl, hown, hbl⟩ := hrel
    by_cases h0 : 0 < k
    · have hl := length_dgi (s.data.toList.drop k)
      rw [List.length_drop, sdata_length] at hl
      have hd := dgi_drop s.data.toList (k - 1) (by rw [sdata_length]; omega)
      rw [show k - 1 + 1 = k by omega] at hd
      generalize dgi (s.data.toList.drop k) = xs at *
      have HD := Lib.hid hd
      have hl2 : xs.length + 1 ≤ 4294967296 := by omega
      clear hd hl
      obtain ⟨ol, cl, hlv, hcl, hclm⟩ := hown.shp
      subst hlv
      go_wp2_with (at_builtin; refine append1I wr rfl _ _ 164 rfl w.heap.size 3 .i64 8 info_i64 Try.underlying164 _ xs hown rfl _ _ _ (wrapB _) rfl hl2 (by omega) hbl.size ?_)
      intro l' w4 hown' hgrow
      have hbl2 := grown_belowI hbl hown hgrow hbl.size
      clear hgrow hown hbl
      go_wp2_with fail
      go_roundw
      case rel => exact ⟨k - 1, by omega, by rw [show ((k - 1 : Nat) : Int) = (k : Int) - 1 by omega], by rw [HD.out]; exact hown', hbl2⟩
      case measure => simp [intOf]; omega
    · obtain rfl : k = 0 := by omega
      go_wp2_with fail
      go_ret
      exact ⟨_, rfl, hown, hbl⟩

set_option maxHeartbeats 400000 in
theorem at_any (B : Nat) (v : Value) (xs : List Int) (i : Nat) (w : World) (hown : OwnZ w B v xs) (hi : i ≤ 1048576) :
    Calls Try.prog 113 #[v, .int .i64 (i : Int)] w fun e w' => e = .returned (.int .i64 (xs.getD i 0)) ∧ w = w' := by
  obtain ⟨oa, cap, rfl, hc1, hc2⟩ := hown.shp
  by_cases h : i < xs.length
  · obtain ⟨g, rfl, hg1, hg2⟩ := OwnI.at hown (by omega)
    have hc := hown.cell i h
    have e : xs.getD i 0 = xs[i] := by simp [List.getD, h]
    rw [e]
    generalize xs[i] = x at *
    clear e hown
    go_enter Try.func113, Try.ntmps113
    go_wp2_with fail
    go_ret
    exact ⟨rfl, rfl⟩
  · have e : xs.getD i 0 = 0 := by simp [List.getD, List.getElem?_eq_none (by omega : xs.length ≤ i)]
    rw [e]
    clear e hown
    go_enter Try.func113, Try.ntmps113
    go_wp2_with fail
    go_ret
    exact ⟨rfl, rfl⟩

theorem num_step (xs : List Int) (hr : ∀ x ∈ xs, 0 ≤ x ∧ x < 256) (j : Nat) (h0 : 0 < j) (hj : j ≤ xs.length) (x : Int) (hx : xs[j - 1] = x) (hne : x ≠ 0 ∨ 0 < vle (xs.drop j)) :
    enc (vle (xs.drop (j - 1))).toNat = enc (vle (xs.drop j)).toNat ++ [UInt8.ofNat x.toNat] ∧ 0 < vle (xs.drop (j - 1)) := by
  have h1 := vle_drop xs (j - 1) (by omega)
  rw [show j - 1 + 1 = j by omega, hx] at h1
  have h2 := vle_nonneg (xs.drop j) fun y hy => (hr y (List.mem_of_mem_drop hy)).1
  have h3 := hr _ (List.getElem_mem (show j - 1 < xs.length by omega))
  rw [hx] at h3
  rw [h1]
  have e := enc_step (vle (xs.drop j)).toNat x.toNat (by omega)
  rw [if_neg (by omega)] at e
  rw [← e]
  refine ⟨by congr 1; omega, by omega⟩
theorem enc_len_vle (xs : List Int) (hr : ∀ x ∈ xs, 0 ≤ x ∧ x < 256) : (enc (vle xs).toNat).length ≤ xs.length := by
  rw [enc_length_le]
  have h1 := vle_lt xs fun x hx => (hr x hx).2
  have h2 := vle_nonneg xs fun x hx => (hr x hx).1
  have h3 : (256 : Int) ^ xs.length = ((256 ^ xs.length : Nat) : Int) := by rw [Int.natCast_pow]; rfl
  rw [h3] at h1
  omega

theorem OwnB.lit0 (w : World) : OwnB (w.alloc (.cells #[] 5)) w.heap.size (.slice (some ⟨w.heap.size, 0, none⟩) 0 0) [] := by
  have h := World.ownsRow_lit (base := w.heap.size) (e := 5) (size := 1) w #[] 0 (Nat.le_refl _) (by simp [maxLen]) rfl
  exact h
theorem encS0_eq' : encS 0 = ⟨#[]⟩ := by rw [← bE_encS]; rfl

set_option maxHeartbeats 2000000 in
theorem number_any (B : Nat) (v : Value) (xs : List Int) (w : World) (hown : OwnZ w B v xs) (hr : ∀ x ∈ xs, 0 ≤ x ∧ x < 256) (hl : xs.length ≤ 65536) :
    Calls Try.prog 115 #[v] w fun e w' => e = .returned (.string (encS (vle xs).toNat)) ∧ Below w.heap.size w w' := by
  obtain ⟨oa, cap, rfl, hc1, hc2⟩ := hown.shp
  have HO := Lib.hid hown
  have HR := Lib.hid hr
  clear hown hr
  go_enter Try.func115, Try.ntmps115
  go_wp2_with fail
  go_loopw [3] (fun n wr => ∃ k : Nat, k ≤ xs.length ∧ n = .int .i64 (k : Int) ∧ vle (xs.drop k) = 0 ∧ w = wr) (fun n _ => (intOf n).toNat)
  case atStart => exact ⟨xs.length, Nat.le_refl _, rfl, by rw [List.drop_length]; rfl, rfl⟩
  case round =>
    obtain ⟨k, hk, rfl, hz, rfl⟩ := hrel
    have HZ := Lib.hid hz
    clear hz
    by_cases h0 : 0 < k
    · obtain ⟨g, rfl, hg1, hg2⟩ := OwnI.at HO.out (by omega)
      have hc := OwnI.cell HO.out (k - 1) (by omega)
      have hxr := HR.out _ (List.getElem_mem (show k - 1 < xs.length by omega))
      generalize hx : xs[k - 1] = x at hc hxr
      have HX := Lib.hid hx
      clear hx
      obtain ⟨x1, x2⟩ := hxr
      by_cases hx0 : x ≤ 0
      · obtain rfl : x = 0 := by omega
        go_wp2_with fail
        go_roundw
        case rel =>
          refine ⟨k - 1, by omega, by rw [show ((k - 1 : Nat) : Int) = (k : Int) - 1 by omega], ?_, trivial⟩
          have h1 := vle_drop xs (k - 1) (by omega)
          rw [show k - 1 + 1 = k by omega, HX.out, HZ.out] at h1
          exact h1
        case measure => simp [intOf]; omega
      · have hx1 : 0 < x := by omega
        have hx3 : (x == 0) = false := by
          rw [beq_eq_false_iff_ne]
          omega
        clear hx0
        go_wp2_with fail
        go_loopw [4, 5] (fun b i wr => ∃ j : Nat, j ≤ k ∧ i = .int .i64 ((j : Int) - 1) ∧ (j = k ∨ 0 < vle (xs.drop j)) ∧ OwnB wr w.heap.size b (enc (vle (xs.drop j)).toNat) ∧ Below w.heap.size w wr) (fun _ i _ => (intOf i + 1).toNat)
        case atStart =>
          refine ⟨k, Nat.le_refl _, rfl, Or.inl rfl, ?_, (Below.refl _ _).alloc (Nat.le_refl _) _⟩
          rw [HZ.out]
          exact OwnB.lit0 w
        case round =>
          obtain ⟨j, hj, rfl, hor, hb, hbl⟩ := hrel
          by_cases hj0 : 0 < j
          · have hjl : j - 1 < xs.length := by omega
            have hcj := OwnI.cell (OwnI.kept HO.out (row := none) ⟨hbl.os, hbl.tape, hbl.output, hbl.size, fun i hi _ => hbl.block i hi⟩ (by simp [Value.ownBlock])) (j - 1) hjl
            have hyr := HR.out _ (List.getElem_mem hjl)
            have hstep := fun (y : Int) (hy : xs[j - 1] = y) (hy0 : 0 ≤ y) => num_step xs HR.out j hj0 (by omega) y hy (by
              rcases hor with rfl | h
              · left
                have := HX.out
                rw [hy] at this
                omega
              · exact Or.inr h)
            have hlen := Nat.le_trans (enc_len_vle (xs.drop j) fun x hx => HR.out x (List.mem_of_mem_drop hx)) (by rw [List.length_drop]; exact Nat.sub_le _ _)
            generalize hy : xs[j - 1] = y at hcj hyr
            have hst := hstep y hy (by omega)
            have hy2 : ((y.toNat : Nat) : Int) = y := by omega
            obtain ⟨y1, y2⟩ := hyr
            have hyw : ((UInt8.ofNat y.toNat).toNat : Int) = y := by
              have : (UInt8.ofNat y.toNat).toNat = y.toNat := by simp; omega
              omega
            generalize enc (vle (xs.drop j)).toNat = bs at *
            have HST := Lib.hid hst
            have HYW := Lib.hid hyw
            have hl2 : (bs.map UInt8.toNat).length + 1 ≤ 4294967296 := by rw [List.length_map]; omega
            clear hst hyw hy2 hstep hy hor hlen
            obtain ⟨ob, cb, hv, hcb, hcbm⟩ := hb.shp
            rw [List.length_map] at hv hcb
            subst hv
            go_wp2_with (at_builtin; refine append1 wr rfl _ _ 149 rfl w.heap.size 5 .u8 1 info_u8 Try.underlying149 _ (bs.map UInt8.toNat) hb rfl _ _ (UInt8.ofNat y.toNat).toNat HYW.out.symm rfl hl2 (by omega) hbl.size ?_)
            intro v' w1 hown' hgrow
            have hbl1 := grown_below hbl hb hgrow hbl.size
            clear hb hgrow hbl
            go_wp2_with fail
            go_roundw
            case rel => exact ⟨j - 1, by omega, by rw [show ((j - 1 : Nat) : Int) = (j : Int) - 1 by omega], Or.inr HST.out.2, by rw [HST.out.1]; unfold OwnB; simpa using hown', hbl1⟩
            case measure => simp [intOf]; omega
          · obtain rfl : j = 0 := by omega
            rw [List.drop_zero] at hb
            have hcv := fun d hd => OwnN.str (P := Try.prog) hb 149 d Try.underlying149 Try.underlying5 hd
            go_wp2_with fail
            go_ret
            exact ⟨rfl, hbl⟩
    · obtain rfl : k = 0 := by omega
      have e : vle xs = 0 := by have := HZ.out; rw [List.drop_zero] at this; exact this
      have HE := Lib.hid e
      have hb := OwnB.lit0 w
      have hcv := fun d hd => OwnN.str (P := Try.prog) (bs := []) hb 149 d Try.underlying149 Try.underlying5 hd
      clear e
      go_wp2_with fail
      refine wp_loop_rounds 1 ?_
      rw [rounds_succ]
      go_wp2_with fail
      go_ret
      exact ⟨by rw [HE.out, show encS (Int.toNat 0) = ⟨#[]⟩ from encS0_eq']; rfl, (Below.refl _ _).alloc (Nat.le_refl _) _⟩

end Go.Proofs.Ytmcejefeloljiaa

/-
  The walks of the reference for naturals: carry.
-/
namespace Go.Proofs.Ytmcejefeloljiaa
set_option linter.unusedVariables false
set_option linter.unusedSimpArgs false
open Go.RowKit Nm

set_option maxHeartbeats 2000000 in
theorem carry_any (B : Nat) (v : Value) (xs : List Int) (w : World) (hown : OwnZ w B v xs) (he : ∀ x ∈ xs, -8589934592 ≤ x ∧ x ≤ 8589934592) (hv : 0 ≤ vle xs) (hl : xs.length ≤ 65536) :
    Calls Try.prog 116 #[v] w fun e w' => ∃ (v' : Value) (out : List Int), e = .returned v' ∧ OwnZ w' w.heap.size v' out ∧ vle out = vle xs ∧ (∀ x ∈ out, 0 ≤ x ∧ x < 256) ∧ out.length ≤ xs.length + 6 ∧ Below w.heap.size w w' := by
  obtain ⟨oa, cap, rfl, hc1, hc2⟩ := hown.shp
  have HO := Lib.hid hown
  have HE := Lib.hid he
  have HV := Lib.hid hv
  clear hown he hv
  go_enter Try.func116, Try.ntmps116
  go_wp2_with fail
  go_loopw [3, 4, 5] (fun out over i wr => ∃ (k : Nat) (ov : Int) (o : List Int), i = .int .i64 (k : Int) ∧ over = .int .i64 ov ∧ k ≤ xs.length + 6 ∧ carryI xs o ov k ∧ OwnZ wr w.heap.size out o ∧ Below w.heap.size w wr) (fun _ _ i _ => xs.length + 7 - (intOf i).toNat)
  case atStart => exact ⟨0, 0, [], rfl, rfl, by omega, carryI.zero xs, OwnZ.lit0 w, (Below.refl _ _).alloc (Nat.le_refl _) _⟩
  case round =>
    obtain ⟨k, ov, o, rfl, rfl, hk, hC, hown, hbl⟩ := hrel
    have hol := hC.len
    obtain ⟨ol, cl, hlv, hcl, hclm⟩ := hown.shp
    subst hlv
    have hol2 : o.length ≤ xs.length + 6 := by omega
    have hb0 := hC.bound
    have HC := Lib.hid hC
    clear hC hol
    by_cases h0 : k < xs.length
    · obtain ⟨g, rfl, hg1, hg2⟩ := OwnI.at HO.out (by omega)
      have hc := OwnI.cell (OwnI.kept HO.out (row := none) ⟨hbl.os, hbl.tape, hbl.output, hbl.size, fun i hi _ => hbl.block i hi⟩ (by simp [Value.ownBlock])) k h0
      have hxr := HE.out _ (List.getElem_mem h0)
      generalize hx : xs[k] = x at hc hxr
      have HX := Lib.hid hx
      clear hx
      obtain ⟨x1, x2⟩ := hxr
      obtain ⟨b1, b2⟩ := hb0
      go_wp2_with fail
      go_loopw [4, 6] (fun over d wq => ∃ dd oo : Int, d = .int .i64 dd ∧ over = .int .i64 oo ∧ oo ≤ 0 ∧ -268435456 ≤ oo ∧ (ov + x) = dd + 256 * oo ∧ (oo = 0 ∨ dd ≤ 255) ∧ wr = wq) (fun _ d _ => (- intOf d).toNat)
      case atStart => exact ⟨(ov + x), 0, rfl, rfl, by omega, by omega, by omega, Or.inl rfl, rfl⟩
      case round =>
        obtain ⟨dd, oo, rfl, rfl, ho1, ho2, hd, hor, rfl⟩ := hrel
        have HDD := Lib.hid hd
        have hd1 : -25769803776 ≤ dd + 256 * oo := by omega
        have hd2 : dd + 256 * oo ≤ 34359738368 := by omega
        clear hd
        by_cases hdn : dd < 0
        · have ho3 : -268435456 < oo := by omega
          go_wp2_with fail
          go_roundw
          case rel => exact ⟨dd + 256, oo - 1, rfl, rfl, by omega, by omega, by have := HDD.out; omega, Or.inr (by omega), trivial⟩
          case measure => simp [intOf]; omega
        · have hd0 : 0 ≤ dd := by omega
          have HS := Lib.hid (show ∀ w1 l', OwnZ w1 w.heap.size l' (o ++ [dd % 256]) → OwnZ w1 w.heap.size l' (o ++ [(ov + x) % 256]) from fun w1 l' h => by rw [show (ov + x) % 256 = dd % 256 by have := HDD.out; omega]; exact h)
          have HO2 := Lib.hid (show oo + dd / 256 = (ov + x) / 256 by have := HDD.out; omega)
          have hd3 : dd ≤ 34359738368 := by omega
          clear hdn hor
          go_wp2_with (at_builtin; refine append1I wr rfl _ _ 164 rfl w.heap.size 3 .i64 8 info_i64 Try.underlying164 _ o hown rfl _ _ (dd % 256) rfl rfl (by omega) (by omega) hbl.size ?_)
          intro l' w4 hown' hgrow
          have hbl2 := grown_belowI hbl hown hgrow hbl.size
          have hown2 := HS.out _ _ hown'
          clear hgrow hown hbl hown'
          go_wp2_with fail
          go_roundw
          case rel => exact ⟨k + 1, (ov + x) / 256, _, by go_num, by rw [← HO2.out], by omega, carryI.step HC.out h0 (by rw [HX.out]) (by rw [HX.out]; omega), hown2, hbl2⟩
          case measure => simp [intOf]; omega
    · by_cases hp : 0 < ov
      · obtain ⟨hm, hk5⟩ := HC.out.more (by omega) hp
        have HM := Lib.hid hm
        clear hm
        obtain ⟨b1, b2⟩ := hb0
        go_wp2_with fail
        go_loopw [4, 6] (fun over d wq => ∃ dd oo : Int, d = .int .i64 dd ∧ over = .int .i64 oo ∧ oo ≤ 0 ∧ -268435456 ≤ oo ∧ ov = dd + 256 * oo ∧ (oo = 0 ∨ dd ≤ 255) ∧ wr = wq) (fun _ d _ => (- intOf d).toNat)
        case atStart => exact ⟨ov, 0, rfl, rfl, by omega, by omega, by omega, Or.inl rfl, rfl⟩
        case round =>
          obtain ⟨dd, oo, rfl, rfl, ho1, ho2, hd, hor, rfl⟩ := hrel
          have HDD := Lib.hid hd
          have hd1 : -25769803776 ≤ dd + 256 * oo := by omega
          have hd2 : dd + 256 * oo ≤ 34359738368 := by omega
          clear hd
          by_cases hdn : dd < 0
          · have ho3 : -268435456 < oo := by omega
            go_wp2_with fail
            go_roundw
            case rel => exact ⟨dd + 256, oo - 1, rfl, rfl, by omega, by omega, by have := HDD.out; omega, Or.inr (by omega), trivial⟩
            case measure => simp [intOf]; omega
          · have hd0 : 0 ≤ dd := by omega
            have HS := Lib.hid (show ∀ w1 l', OwnZ w1 w.heap.size l' (o ++ [dd % 256]) → OwnZ w1 w.heap.size l' (o ++ [ov % 256]) from fun w1 l' h => by rw [show ov % 256 = dd % 256 by have := HDD.out; omega]; exact h)
            have HO2 := Lib.hid (show oo + dd / 256 = ov / 256 by have := HDD.out; omega)
            have hd3 : dd ≤ 34359738368 := by omega
            clear hdn hor
            go_wp2_with (at_builtin; refine append1I wr rfl _ _ 164 rfl w.heap.size 3 .i64 8 info_i64 Try.underlying164 _ o hown rfl _ _ (dd % 256) rfl rfl (by omega) (by omega) hbl.size ?_)
            intro l' w4 hown' hgrow
            have hbl2 := grown_belowI hbl hown hgrow hbl.size
            have hown2 := HS.out _ _ hown'
            clear hgrow hown hbl hown'
            go_wp2_with fail
            go_roundw
            case rel => exact ⟨k + 1, ov / 256, _, by go_num, by rw [← HO2.out], by omega, HM.out, hown2, hbl2⟩
            case measure => simp [intOf]; omega
      · have HD := Lib.hid (HC.out.done (by omega) (by omega) HV.out)
        have HR := Lib.hid HC.out.rng
        go_wp2_with fail
        go_ret
        exact ⟨_, rfl, o, hown, HD.out, HR.out, by omega, hbl⟩

end Go.Proofs.Ytmcejefeloljiaa

/-
  The walks of the reference for naturals: Add, minus, Sub.
-/
namespace Go.Proofs.Ytmcejefeloljiaa
set_option linter.unusedVariables false
set_option linter.unusedSimpArgs false
open Go.RowKit Nm

/-- between two rounds of the loops that add or subtract digit by digit -/
structure linI (s : Int) (X Y o : List Int) (k : Nat) : Prop where
  len : o.length = k
  sum : vle o = vle (X.take k) + s * vle (Y.take k)
  rng : ∀ x ∈ o, -510 ≤ x ∧ x ≤ 510
theorem linI.zero (s : Int) (X Y : List Int) : linI s X Y [] 0 := ⟨rfl, by simp [vle], by simp⟩
theorem linI.step {s : Int} {X Y o : List Int} {k : Nat} (h : linI s X Y o k) (z : Int) (hz : z = X.getD k 0 + s * Y.getD k 0) (hr : -510 ≤ z ∧ z ≤ 510) : linI s X Y (o ++ [z]) (k + 1) := by
  refine ⟨by simp [h.len], ?_, ?_⟩
  · rw [vle_snoc, h.len, h.sum, vle_take X, vle_take Y, hz, Int.mul_add, Int.mul_add, ← Int.mul_assoc, ← Int.mul_assoc, Int.mul_comm s (256 ^ k)]
    omega
  · intro x hx
    rw [List.mem_append] at hx
    rcases hx with hx | hx
    · exact h.rng x hx
    · simp at hx; subst hx; exact hr
theorem linI.done {s : Int} {X Y o : List Int} {k : Nat} (h : linI s X Y o k) (hX : X.length ≤ k) (hY : Y.length ≤ k) : vle o = vle X + s * vle Y := by
  rw [h.sum, List.take_of_length_le hX, List.take_of_length_le hY]
theorem vle_dgi_nv (a : ByteArray) : vle (dgi a.data.toList) = ((nv a : Nat) : Int) := vle_dgi _
theorem dgi_len (a : ByteArray) : (dgi a.data.toList).length = a.size := by rw [length_dgi, sdata_length]

set_option maxHeartbeats 1000000 in
/-- number(carry(l)) -/
theorem numcarry (B : Nat) (v : Value) (xs : List Int) (w : World) (N : Nat) (hown : OwnZ w B v xs) (he : ∀ x ∈ xs, -8589934592 ≤ x ∧ x ≤ 8589934592) (hv : vle xs = (N : Int)) (hl : xs.length ≤ 65530) :
    Calls Try.prog 116 #[v] w fun e w' => ∃ v', e = .returned v' ∧ Below w.heap.size w w' ∧
      Calls Try.prog 115 #[v'] w' fun e w'' => e = .returned (.string (encS N)) ∧ Below w.heap.size w w'' := by
  refine (carry_any B v xs w hown he (by omega) (by omega)).mono ?_
  rintro e w' ⟨v', out, rfl, ho, hs, hr, hlen, hb⟩
  refine ⟨v', rfl, hb, ?_⟩
  refine (number_any _ v' out w' ho hr (by omega)).mono ?_
  rintro e w'' ⟨rfl, hb2⟩
  refine ⟨?_, hb.trans (hb2.mono hb.size)⟩
  rw [hs, hv]
  rfl

set_option maxHeartbeats 4000000 in
theorem rAdd_any (a b : ByteArray) (w : World) :
    Calls Try.prog 56 #[.string a, .string b] w fun e w' => e = .returned (.tuple #[.string (addF a b).1, .int .i64 (addF a b).2]) ∧ Below w.heap.size w w' := by
  have h_ := fun w => both_any a b w
  by_cases h : chkN [a, b] = 0
  · have E : Hid (addF a b = shortN (nv a + nv b)) := Lib.hid (if_pos h)
    obtain ⟨_, _, s1, s2⟩ := chk2_zero h
    rw [h] at h_
    have HB := Lib.hid h_
    have lx := dgi_len a
    have ly := dgi_len b
    have vx := vle_dgi_nv a
    have vy := vle_dgi_nv b
    have da := fun w => digits_any a w (by omega)
    have db := fun w => digits_any b w (by omega)
    have rx := dgi_range a.data.toList
    have ry := dgi_range b.data.toList
    generalize dgi a.data.toList = X at *
    generalize dgi b.data.toList = Y at *
    have DA := Lib.hid da
    have DB := Lib.hid db
    have VX := Lib.hid vx
    have VY := Lib.hid vy
    have RX := Lib.hid rx
    have RY := Lib.hid ry
    rw [← lx] at s1
    rw [← ly] at s2
    clear lx ly da db vx vy rx ry
    clear h_ h
    go_enter Try.func56, Try.ntmps56
    go_wp2_with fail
    refine (HB.out _).mono ?_
    rintro e w1 ⟨rfl, rfl⟩
    go_wp2_with fail
    refine (DA.out _).mono ?_
    rintro e w2 ⟨v, rfl, hv, hb2⟩
    go_wp2_with fail
    refine (DB.out _).mono ?_
    rintro e w3 ⟨u, rfl, hu, hb3⟩
    have hbl3 := hb2.trans (hb3.mono hb2.size)
    obtain ⟨oa, cap, rfl, hcap, hcm⟩ := hv.shp
    obtain ⟨ob, cap', rfl, hcap', hcm'⟩ := hu.shp
    have HV := Lib.hid (hv.below hb3)
    have HU := Lib.hid hu
    have HB3 := Lib.hid hbl3
    clear hv hu hb2 hb3 hbl3
    go_wp2_with fail
    go_loopw [9, 10] (fun l i wr => ∃ (k : Nat) (o : List Int), k ≤ max X.length Y.length ∧ i = .int .i64 (k : Int) ∧ linI 1 X Y o k ∧ OwnZ wr w3.heap.size l o ∧ Below w3.heap.size w3 wr) (fun _ i _ => max X.length Y.length - (intOf i).toNat)
    case atStart => exact ⟨0, [], by omega, rfl, linI.zero _ _ _, OwnZ.lit0 w3, (Below.refl _ _).alloc (Nat.le_refl _) _⟩
    case round =>
      obtain ⟨k, o, hk, rfl, hL, hown, hbl⟩ := hrel
      have hol := hL.len
      have HL := Lib.hid hL
      clear hL
      obtain ⟨ol, cl, hlv, hcl, hclm⟩ := hown.shp
      subst hlv
      by_cases hm : X.length < Y.length
      · skip
        by_cases h0 : k < Y.length
        · skip
          have hxr := getD_range RX.out (by omega) (by omega) k
          have hyr := getD_range RY.out (by omega) (by omega) k
          have ax := fun ww (h : OwnZ ww w.heap.size (.slice oa X.length cap) X) => at_any _ _ X k ww h (by omega)
          have ay := fun ww (h : OwnZ ww w2.heap.size (.slice ob Y.length cap') Y) => at_any _ _ Y k ww h (by omega)
          generalize hx : X.getD k 0 = x at *
          generalize hy : Y.getD k 0 = y at *
          have AX := Lib.hid (ax wr (HV.out.below hbl))
          have AY := Lib.hid (ay wr (HU.out.below hbl))
          have HST := Lib.hid (HL.out.step (x + y) (by rw [hx, hy]; omega) (by omega))
          obtain ⟨x1, x2⟩ := hxr
          obtain ⟨y1, y2⟩ := hyr
          have hol2 : o.length + 1 ≤ 4294967296 := by omega
          clear ax ay hx hy hol
          go_wp2_with fail
          refine AX.out.mono ?_
          rintro e w4 ⟨rfl, rfl⟩
          go_wp2_with fail
          refine AY.out.mono ?_
          rintro e w4 ⟨rfl, rfl⟩
          go_wp2_with (at_builtin; refine append1I wr rfl _ _ 164 rfl w3.heap.size 3 .i64 8 info_i64 Try.underlying164 _ o hown rfl _ _ _ rfl rfl hol2 (by omega) hbl.size ?_)
          intro l' w4 hown' hgrow
          have hbl2 := grown_belowI hbl hown hgrow hbl.size
          clear hgrow hown hbl
          go_wp2_with fail
          go_roundw
          case rel => exact ⟨k + 1, _, by omega, by go_num, HST.out, hown', hbl2⟩
          case measure => simp [intOf]; omega
        · have hsum : vle o = ((nv a + nv b : Nat) : Int) := by
            rw [HL.out.done (by omega) (by omega), VX.out, VY.out]
            omega
          have hnc := numcarry _ _ o wr (nv a + nv b) hown (fun x hx => by have := HL.out.rng x hx; omega) hsum (by omega)
          have HNC := Lib.hid hnc
          clear hnc hsum hol
          go_wp2_with fail
          refine HNC.out.mono ?_
          rintro e w5 ⟨v', rfl, hb5, hn⟩
          have HN := Lib.hid hn
          clear hn
          go_wp2_with fail
          refine HN.out.mono ?_
          rintro e w6 ⟨rfl, hb6⟩
          go_wp2_with fail
          refine (rshort_any _ _).mono ?_
          rintro e w7 ⟨rfl, rfl⟩
          go_wp2_with fail
          go_ret2
          have hbw : Below w.heap.size w wr := HB3.out.trans (hbl.mono HB3.out.size)
          exact ⟨by rw [E.out]; rfl, hbw.trans (hb6.mono hbw.size)⟩
      · replace hm : Y.length ≤ X.length := by omega
        by_cases h0 : k < X.length
        · skip
          have hxr := getD_range RX.out (by omega) (by omega) k
          have hyr := getD_range RY.out (by omega) (by omega) k
          have ax := fun ww (h : OwnZ ww w.heap.size (.slice oa X.length cap) X) => at_any _ _ X k ww h (by omega)
          have ay := fun ww (h : OwnZ ww w2.heap.size (.slice ob Y.length cap') Y) => at_any _ _ Y k ww h (by omega)
          generalize hx : X.getD k 0 = x at *
          generalize hy : Y.getD k 0 = y at *
          have AX := Lib.hid (ax wr (HV.out.below hbl))
          have AY := Lib.hid (ay wr (HU.out.below hbl))
          have HST := Lib.hid (HL.out.step (x + y) (by rw [hx, hy]; omega) (by omega))
          obtain ⟨x1, x2⟩ := hxr
          obtain ⟨y1, y2⟩ := hyr
          have hol2 : o.length + 1 ≤ 4294967296 := by omega
          clear ax ay hx hy hol
          go_wp2_with fail
          refine AX.out.mono ?_
          rintro e w4 ⟨rfl, rfl⟩
          go_wp2_with fail
          refine AY.out.mono ?_
          rintro e w4 ⟨rfl, rfl⟩
          go_wp2_with (at_builtin; refine append1I wr rfl _ _ 164 rfl w3.heap.size 3 .i64 8 info_i64 Try.underlying164 _ o hown rfl _ _ _ rfl rfl hol2 (by omega) hbl.size ?_)
          intro l' w4 hown' hgrow
          have hbl2 := grown_belowI hbl hown hgrow hbl.size
          clear hgrow hown hbl
          go_wp2_with fail
          go_roundw
          case rel => exact ⟨k + 1, _, by omega, by go_num, HST.out, hown', hbl2⟩
          case measure => simp [intOf]; omega
        · have hsum : vle o = ((nv a + nv b : Nat) : Int) := by
            rw [HL.out.done (by omega) (by omega), VX.out, VY.out]
            omega
          have hnc := numcarry _ _ o wr (nv a + nv b) hown (fun x hx => by have := HL.out.rng x hx; omega) hsum (by omega)
          have HNC := Lib.hid hnc
          clear hnc hsum hol
          go_wp2_with fail
          refine HNC.out.mono ?_
          rintro e w5 ⟨v', rfl, hb5, hn⟩
          have HN := Lib.hid hn
          clear hn
          go_wp2_with fail
          refine HN.out.mono ?_
          rintro e w6 ⟨rfl, hb6⟩
          go_wp2_with fail
          refine (rshort_any _ _).mono ?_
          rintro e w7 ⟨rfl, rfl⟩
          go_wp2_with fail
          go_ret2
          have hbw : Below w.heap.size w wr := HB3.out.trans (hbl.mono HB3.out.size)
          exact ⟨by rw [E.out]; rfl, hbw.trans (hb6.mono hbw.size)⟩
  · have E : Hid (addF a b = (bE, chkN [a, b])) := Lib.hid (if_neg h)
    have HB := Lib.hid h_
    have h2 : (chkN [a, b] != 0) = true := by simpa using h
    clear h_ h
    go_enter Try.func56, Try.ntmps56
    go_wp2_with fail
    refine (HB.out _).mono ?_
    rintro e w1 ⟨rfl, rfl⟩
    go_wp2_with fail
    go_ret2
    exact ⟨by rw [E.out]; rfl, Below.refl _ _⟩

set_option maxHeartbeats 4000000 in
theorem minus_any (a b : ByteArray) (w : World) (s1 : a.size ≤ 4096) (s2 : b.size ≤ a.size) (hle : nv b ≤ nv a) :
    Calls Try.prog 122 #[.string a, .string b] w fun e w' => e = .returned (.string (encS (nv a - nv b))) ∧ Below w.heap.size w w' := by
  have lx := dgi_len a
  have ly := dgi_len b
  have vx := vle_dgi_nv a
  have vy := vle_dgi_nv b
  have da := fun w => digits_any a w (by omega)
  have db := fun w => digits_any b w (by omega)
  have rx := dgi_range a.data.toList
  have ry := dgi_range b.data.toList
  generalize dgi a.data.toList = X at *
  generalize dgi b.data.toList = Y at *
  have DA := Lib.hid da
  have DB := Lib.hid db
  have VX := Lib.hid vx
  have VY := Lib.hid vy
  have RX := Lib.hid rx
  have RY := Lib.hid ry
  rw [← lx] at s1 s2
  rw [← ly] at s2
  clear lx ly da db vx vy rx ry
  go_enter Try.func122, Try.ntmps122
  go_wp2_with fail
  refine (DA.out _).mono ?_
  rintro e w2 ⟨v, rfl, hv, hb2⟩
  go_wp2_with fail
  refine (DB.out _).mono ?_
  rintro e w3 ⟨u, rfl, hu, hb3⟩
  have hbl3 := hb2.trans (hb3.mono hb2.size)
  obtain ⟨oa, cap, rfl, hcap, hcm⟩ := hv.shp
  obtain ⟨ob, cap', rfl, hcap', hcm'⟩ := hu.shp
  have HV := Lib.hid (hv.below hb3)
  have HU := Lib.hid hu
  have HB3 := Lib.hid hbl3
  clear hv hu hb2 hb3 hbl3
  go_wp2_with fail
  go_loopw [7, 8] (fun l i wr => ∃ (k : Nat) (o : List Int), k ≤ X.length ∧ i = .int .i64 (k : Int) ∧ linI (-1) X Y o k ∧ OwnZ wr w3.heap.size l o ∧ Below w3.heap.size w3 wr) (fun _ i _ => X.length - (intOf i).toNat)
  case atStart => exact ⟨0, [], by omega, rfl, linI.zero _ _ _, OwnZ.lit0 w3, (Below.refl _ _).alloc (Nat.le_refl _) _⟩
  case round =>
    obtain ⟨k, o, hk, rfl, hL, hown, hbl⟩ := hrel
    have hol := hL.len
    have HL := Lib.hid hL
    clear hL
    obtain ⟨ol, cl, hlv, hcl, hclm⟩ := hown.shp
    subst hlv
    by_cases h0 : k < X.length
    · skip
      have hxr := getD_range RX.out (by omega) (by omega) k
      have hyr := getD_range RY.out (by omega) (by omega) k
      have ax := fun ww (h : OwnZ ww w.heap.size (.slice oa X.length cap) X) => at_any _ _ X k ww h (by omega)
      have ay := fun ww (h : OwnZ ww w2.heap.size (.slice ob Y.length cap') Y) => at_any _ _ Y k ww h (by omega)
      generalize hx : X.getD k 0 = x at *
      generalize hy : Y.getD k 0 = y at *
      have AX := Lib.hid (ax wr (HV.out.below hbl))
      have AY := Lib.hid (ay wr (HU.out.below hbl))
      have HST := Lib.hid (HL.out.step (x - y) (by rw [hx, hy]; omega) (by omega))
      obtain ⟨x1, x2⟩ := hxr
      obtain ⟨y1, y2⟩ := hyr
      have hol2 : o.length + 1 ≤ 4294967296 := by omega
      clear ax ay hx hy hol
      go_wp2_with fail
      refine AX.out.mono ?_
      rintro e w4 ⟨rfl, rfl⟩
      go_wp2_with fail
      refine AY.out.mono ?_
      rintro e w4 ⟨rfl, rfl⟩
      go_wp2_with (at_builtin; refine append1I wr rfl _ _ 164 rfl w3.heap.size 3 .i64 8 info_i64 Try.underlying164 _ o hown rfl _ _ _ rfl rfl hol2 (by omega) hbl.size ?_)
      intro l' w4 hown' hgrow
      have hbl2 := grown_belowI hbl hown hgrow hbl.size
      clear hgrow hown hbl
      go_wp2_with fail
      go_roundw
      case rel => exact ⟨k + 1, _, by omega, by go_num, HST.out, hown', hbl2⟩
      case measure => simp [intOf]; omega
    · have hsum : vle o = ((nv a - nv b : Nat) : Int) := by
        rw [HL.out.done (by omega) (by omega), VX.out, VY.out]
        omega
      have hnc := numcarry _ _ o wr (nv a - nv b) hown (fun x hx => by have := HL.out.rng x hx; omega) hsum (by omega)
      have HNC := Lib.hid hnc
      clear hnc hsum hol
      go_wp2_with fail
      refine HNC.out.mono ?_
      rintro e w5 ⟨v', rfl, hb5, hn⟩
      have HN := Lib.hid hn
      clear hn
      go_wp2_with fail
      refine HN.out.mono ?_
      rintro e w6 ⟨rfl, hb6⟩
      go_wp2_with fail
      go_ret
      have hbw : Below w.heap.size w wr := HB3.out.trans (hbl.mono HB3.out.size)
      exact ⟨rfl, hbw.trans (hb6.mono hbw.size)⟩

theorem size_le_of {a b : ByteArray} (h1 : isN a = true) (h2 : isN b = true) (h : nv b ≤ nv a) : b.size ≤ a.size := by
  apply Decidable.byContradiction
  intro hc
  have := nv_lt_of_size h2 (show a.size < b.size by omega)
  omega
set_option maxHeartbeats 1000000 in
theorem rSub_any (a b : ByteArray) (w : World) :
    Calls Try.prog 66 #[.string a, .string b] w fun e w' => e = .returned (.tuple #[.string (subF a b).1, .int .i64 (subF a b).2]) ∧ Below w.heap.size w w' := by
  have h_ := fun w => both_any a b w
  by_cases h : chkN [a, b] = 0
  · obtain ⟨n1, n2, s1, s2⟩ := chk2_zero h
    rw [h] at h_
    have HB := Lib.hid h_
    have l1 := fun w => less_ref a b w n1 n2 (by unfold maxLen; omega) (by unfold maxLen; omega)
    by_cases hlt : nv a < nv b
    · have E : Hid (subF a b = (bE, 1)) := Lib.hid (by rw [subF, if_pos h, if_pos hlt])
      rw [decide_eq_true hlt] at l1
      have HL := Lib.hid l1
      clear h_ h l1 hlt
      go_enter Try.func66, Try.ntmps66
      go_wp2_with fail
      refine (HB.out _).mono ?_
      rintro e w1 ⟨rfl, rfl⟩
      go_wp2_with fail
      refine (HL.out _).mono ?_
      rintro e w2 ⟨rfl, k, rfl⟩
      go_wp2_with fail
      go_ret2
      exact ⟨by rw [E.out]; rfl, below_drewN (Below.refl _ _) k⟩
    · have E : Hid (subF a b = (encS (nv a - nv b), 0)) := Lib.hid (by rw [subF, if_pos h, if_neg hlt])
      have HM := Lib.hid (fun w => minus_any a b w (by omega) (size_le_of n1 n2 (by omega)) (by omega))
      rw [decide_eq_false hlt] at l1
      have HL := Lib.hid l1
      clear h_ h l1 hlt
      go_enter Try.func66, Try.ntmps66
      go_wp2_with fail
      refine (HB.out _).mono ?_
      rintro e w1 ⟨rfl, rfl⟩
      go_wp2_with fail
      refine (HL.out _).mono ?_
      rintro e w2 ⟨rfl, k, rfl⟩
      go_wp2_with fail
      refine (HM.out _).mono ?_
      rintro e w3 ⟨rfl, hb3⟩
      go_wp2_with fail
      go_ret2
      exact ⟨by rw [E.out]; rfl, (below_drewN (Below.refl _ _) k).trans hb3⟩
  · have E : Hid (subF a b = (bE, chkN [a, b])) := Lib.hid (if_neg h)
    have HB := Lib.hid h_
    have h2 : (chkN [a, b] != 0) = true := by simpa using h
    clear h_ h
    go_enter Try.func66, Try.ntmps66
    go_wp2_with fail
    refine (HB.out _).mono ?_
    rintro e w1 ⟨rfl, rfl⟩
    go_wp2_with fail
    go_ret2
    exact ⟨by rw [E.out]; rfl, Below.refl _ _⟩

end Go.Proofs.Ytmcejefeloljiaa

/-
  The walks of the reference for naturals: Mul.
-/
namespace Go.Proofs.Ytmcejefeloljiaa
set_option linter.unusedVariables false
set_option linter.unusedSimpArgs false
open Go.RowKit Nm

/-- between two rounds of the loops of 'Mul' -/
structure mulI (X Y o : List Int) (i j : Nat) (x : Int) : Prop where
  len : o.length = X.length + Y.length
  sum : vle o = vle (X.take i) * vle Y + 256 ^ i * (x * vle (Y.take j))
  rng : ∀ z ∈ o, 0 ≤ z ∧ z ≤ (256 * i + j) * 65025
theorem mulI.zero (X Y : List Int) : mulI X Y (List.replicate (X.length + Y.length) 0) 0 0 0 := by
  refine ⟨by simp, by rw [vle_replicate]; simp [vle], ?_⟩
  intro z hz
  rw [List.mem_replicate] at hz
  omega
theorem mulI.set {X Y o : List Int} {i j : Nat} {x y l : Int} (h : mulI X Y o i j x) (hj : j < Y.length) (hi : i + j < o.length) (hy : Y[j] = y) (hl : o[i + j] = l)
    (hr : 0 ≤ x * y ∧ x * y ≤ 65025) : mulI X Y (o.set (i + j) (l + x * y)) i (j + 1) x := by
  refine ⟨by rw [List.length_set]; exact h.len, ?_, ?_⟩
  · rw [vle_set o (i + j) _ hi, hl, h.sum, vle_take Y j, show Y.getD j 0 = y by simp [List.getD, hj, hy]]
    rw [show l + x * y - l = x * y by omega, Int.pow_add, Int.mul_add x, Int.mul_add (256 ^ i), Int.add_assoc]
    congr 2
    rw [Int.mul_assoc, Int.mul_left_comm (256 ^ j)]
  · intro z hz
    have h0 := h.rng l (by rw [← hl]; exact List.getElem_mem hi)
    rcases List.mem_or_eq_of_mem_set hz with hz | hz
    · have := h.rng z hz
      omega
    · omega
theorem mulI.next {X Y o : List Int} {i : Nat} {x : Int} (h : mulI X Y o i Y.length x) (hi : i < X.length) (hx : X[i] = x) (hY : Y.length ≤ 256) : mulI X Y o (i + 1) 0 0 := by
  refine ⟨h.len, ?_, ?_⟩
  · rw [h.sum, List.take_length, vle_take X i, show X.getD i 0 = x by simp [List.getD, hi, hx], Int.add_mul]
    simp [vle, Int.mul_assoc]
  · intro z hz
    have := h.rng z hz
    omega
theorem mulI.begin {X Y o : List Int} {i : Nat} {x : Int} (h : mulI X Y o i 0 0) : mulI X Y o i 0 x := by
  refine ⟨h.len, ?_, h.rng⟩
  rw [h.sum]
  simp [vle]
theorem mulI.done {X Y o : List Int} {i : Nat} (h : mulI X Y o i 0 0) (hi : X.length ≤ i) : vle o = vle X * vle Y := by
  rw [h.sum, List.take_of_length_le hi]
  simp
theorem mul_small {x y : Int} (hx : 0 ≤ x ∧ x < 256) (hy : 0 ≤ y ∧ y < 256) : 0 ≤ x * y ∧ x * y ≤ 65025 := by
  refine ⟨Int.mul_nonneg hx.1 hy.1, ?_⟩
  have h1 : x * y ≤ 255 * y := Int.mul_le_mul_of_nonneg_right (by omega) hy.1
  omega

set_option maxHeartbeats 4000000 in
theorem rMul_any (a b : ByteArray) (w : World) :
    Calls Try.prog 64 #[.string a, .string b] w fun e w' => e = .returned (.tuple #[.string (mulF a b).1, .int .i64 (mulF a b).2]) ∧ Below w.heap.size w w' := by
  have h_ := fun w => both_any a b w
  by_cases h : chkN [a, b] = 0
  · have E : Hid (mulF a b = shortN (nv a * nv b)) := Lib.hid (if_pos h)
    obtain ⟨_, _, s1, s2⟩ := chk2_zero h
    rw [h] at h_
    have HB := Lib.hid h_
    have lx := dgi_len a
    have ly := dgi_len b
    have vx := vle_dgi_nv a
    have vy := vle_dgi_nv b
    have da := fun w => digits_any a w (by omega)
    have db := fun w => digits_any b w (by omega)
    have rx := dgi_range a.data.toList
    have ry := dgi_range b.data.toList
    generalize dgi a.data.toList = X at *
    generalize dgi b.data.toList = Y at *
    have DA := Lib.hid da
    have DB := Lib.hid db
    have VX := Lib.hid vx
    have VY := Lib.hid vy
    have RX := Lib.hid rx
    have RY := Lib.hid ry
    rw [← lx] at s1
    rw [← ly] at s2
    clear lx ly da db vx vy rx ry h_ h
    obtain ⟨i0, hi, hz0, hz1, hz2⟩ := info_parts info_i64
    go_enter Try.func64, Try.ntmps64
    go_wp2_with fail
    refine (HB.out _).mono ?_
    rintro e w1 ⟨rfl, rfl⟩
    go_wp2_with fail
    refine (DA.out _).mono ?_
    rintro e w2 ⟨v, rfl, hv, hb2⟩
    go_wp2_with fail
    refine (DB.out _).mono ?_
    rintro e w3 ⟨u, rfl, hu, hb3⟩
    have hbl3 := hb2.trans (hb3.mono hb2.size)
    obtain ⟨oa, cap, rfl, hcap, hcm⟩ := hv.shp
    obtain ⟨ob, cap', rfl, hcap', hcm'⟩ := hu.shp
    have HV := Lib.hid (hv.below hb3)
    have HU := Lib.hid hu
    have HB3 := Lib.hid hbl3
    clear hv hu hb2 hb3 hbl3
    go_wp2_with (at_make; refine wpList_make_full _ rfl _ _ 164 rfl w3.heap.size 3 i0 (.int .i64 0) 1 Try.underlying164 hi hz0 hz1 .i64 .i64 _ _ (X.length + Y.length) rfl rfl (by omega) (by omega) (by rw [hz2]; omega) (by unfold maxLen; omega) (Nat.le_refl _) ?_)
    intro w4 hown hgrow
    have hown4 := OwnI.made hown
    have hbl4 := below_grown (B := w3.heap.size) hgrow (Nat.le_refl _) (by simp)
    have HO4 := Lib.hid hown4
    have HB4 := Lib.hid hbl4
    clear hown hgrow hown4 hbl4 hi hz0 hz1 hz2
    go_wp2_with fail
    go_loopw [10] (fun i wr => ∃ (k : Nat) (o : List Int), k ≤ X.length ∧ i = .int .i64 k ∧ mulI X Y o k 0 0 ∧ OwnZ wr w3.heap.size (.slice (some ⟨w3.heap.size, 0, none⟩) (X.length + Y.length) (X.length + Y.length)) o ∧ Below w3.heap.size w3 wr) (fun i _ => X.length - (intOf i).toNat)
    case atStart => exact ⟨0, _, Nat.zero_le _, rfl, mulI.zero X Y, HO4.out, HB4.out⟩
    case round =>
      obtain ⟨i, o, hi, rfl, hM, hown, hbl⟩ := hrel
      have HM := Lib.hid hM
      have HO := Lib.hid hown
      clear hM hown
      by_cases hlt : i < X.length
      · obtain ⟨g, rfl, hg1, hg2⟩ := OwnI.at HV.out (by omega)
        have hxr := RX.out _ (List.getElem_mem hlt)
        have hcx := (OwnI.below HV.out hbl).cell i hlt
        generalize hgx : X[i] = x at *
        have HGX := Lib.hid hgx
        have HXR := Lib.hid hxr
        clear hgx hcx hxr
        obtain ⟨wo, rfl⟩ : ∃ wo, wo = wr := ⟨_, rfl⟩
        go_wp2_with fail
        go_loopw [11] (fun j wr => ∃ (k : Nat) (o : List Int), k ≤ Y.length ∧ j = .int .i64 k ∧ mulI X Y o i k x ∧ OwnZ wr w3.heap.size (.slice (some ⟨w3.heap.size, 0, none⟩) (X.length + Y.length) (X.length + Y.length)) o ∧ Below w3.heap.size w3 wr) (fun j _ => Y.length - (intOf j).toNat)
        case atStart => exact ⟨0, o, Nat.zero_le _, rfl, HM.out.begin, HO.out, hbl⟩
        case round =>
          clear hbl
          obtain ⟨j, o', hj, rfl, hM', hown', hbl'⟩ := hrel
          have HM' := Lib.hid hM'
          clear hM'
          by_cases hltj : j < Y.length
          · obtain ⟨g', rfl, hg3, hg4⟩ := OwnI.at HU.out (by omega)
            have hyr := RY.out _ (List.getElem_mem hltj)
            have hcx := (OwnI.below HV.out hbl').cell i hlt
            rw [HGX.out] at hcx
            have hcy := (OwnI.below HU.out hbl').cell j hltj
            generalize hgy : Y[j] = y at *
            have HGY := Lib.hid hgy
            clear hgy
            have hij : i + j < o'.length := by rw [HM'.out.len]; omega
            have hcl := hown'.cell (i + j) hij
            have hfl := hown'.frozen (i + j)
            have hls := HM'.out.rng o'[i + j] (List.getElem_mem _)
            generalize hgl : o'[i + j] = l at *
            have HGL := Lib.hid hgl
            clear hgl
            obtain ⟨xy1, xy2⟩ := mul_small HXR.out hyr
            obtain ⟨l1, l2⟩ := hls
            have l3 : l ≤ 8589934592 := by omega
            clear l2 hyr
            have HST := Lib.hid (hown'.stored (i + j) (l + x * y))
            go_wp2_with fail
            go_region
            go_wp2_with fail
            go_roundw
            case rel => exact ⟨j + 1, _, by omega, by go_num, HM'.out.set hltj hij HGY.out HGL.out ⟨xy1, xy2⟩, (HST.out.1).drew, (hbl'.setCell (p := ⟨w3.heap.size, i + j, none⟩) (Nat.le_refl _) _).drew⟩
            case measure => simp [intOf]; omega
          · obtain rfl : j = Y.length := by omega
            go_wp2_with fail
            go_roundw
            case rel => exact ⟨i + 1, o', by omega, by go_num, HM'.out.next hlt HGX.out s2, hown', hbl'⟩
            case measure => simp [intOf]; omega
      · have hsum : vle o = ((nv a * nv b : Nat) : Int) := by
          rw [HM.out.done (by omega), VX.out, VY.out, Int.natCast_mul]
        have hnc := numcarry _ _ o wr (nv a * nv b) HO.out (fun x hx => by have := HM.out.rng x hx; omega) hsum (by rw [HM.out.len]; omega)
        have HNC := Lib.hid hnc
        clear hnc hsum
        go_wp2_with fail
        refine HNC.out.mono ?_
        rintro e w5 ⟨v', rfl, hb5, hn⟩
        have HN := Lib.hid hn
        clear hn
        go_wp2_with fail
        refine HN.out.mono ?_
        rintro e w6 ⟨rfl, hb6⟩
        go_wp2_with fail
        refine (rshort_any _ _).mono ?_
        rintro e w7 ⟨rfl, rfl⟩
        go_wp2_with fail
        go_ret2
        have hbw : Below w.heap.size w wr := HB3.out.trans (hbl.mono HB3.out.size)
        exact ⟨by rw [E.out]; rfl, hbw.trans (hb6.mono hbw.size)⟩
  · have E : Hid (mulF a b = (bE, chkN [a, b])) := Lib.hid (if_neg h)
    have HB := Lib.hid h_
    have h2 : (chkN [a, b] != 0) = true := by simpa using h
    clear h_ h
    go_enter Try.func64, Try.ntmps64
    go_wp2_with fail
    refine (HB.out _).mono ?_
    rintro e w1 ⟨rfl, rfl⟩
    go_wp2_with fail
    go_ret2
    exact ⟨by rw [E.out]; rfl, Below.refl _ _⟩

end Go.Proofs.Ytmcejefeloljiaa

/-
  The walks of the reference for naturals: divide, Div, Gcd.
-/
namespace Go.Proofs.Ytmcejefeloljiaa
set_option linter.unusedVariables false
set_option linter.unusedSimpArgs false
open Go.RowKit Nm

theorem div_step (P B c : Nat) (hB : 0 < B) : (P * 256 + c) / B = P / B * 256 + (P % B * 256 + c) / B ∧ (P * 256 + c) % B = (P % B * 256 + c) % B := by
  have h := Nat.div_add_mod P B
  have e : P * 256 + c = (P % B * 256 + c) + B * (P / B * 256) := by
    conv => lhs; rw [← h]
    rw [Nat.add_mul, Nat.mul_assoc]
    omega
  rw [e, Nat.add_mul_div_left _ _ hB, Nat.add_mul_mod_self_left]
  exact ⟨by omega, rfl⟩

theorem ext1 (a : ByteArray) (k : Nat) (h : k < a.size) : (a.extract k (k + 1)).data.toList = [a[k]] := by
  rw [ByteArray.data_extract, Array.toList_extract, List.extract_eq_take_drop]
  have := sdata_length a
  rw [show k + 1 - k = 1 by omega, List.drop_eq_getElem_cons (by omega)]
  rfl
theorem cat1 (R : Nat) (a : ByteArray) (k : Nat) (h : k < a.size) : (encS R ++ a.extract k (k + 1)).data.toList = enc R ++ [a[k]] := by
  rw [ByteArray.data_append, Array.toList_append, ext1 a k h]
  rfl
theorem head0 (s : ByteArray) (h : 0 < s.size) (l : List UInt8) (x : UInt8) (e : s.data.toList = x :: l) : s[0] = x := by
  show s.data.toList[0]'_ = x
  simp only [e]
  rfl
theorem cat_pos (R : Nat) (a : ByteArray) (k : Nat) (h : k < a.size) : 0 < (encS R ++ a.extract k (k + 1)).size := by
  rw [← sdata_length, cat1 R a k h]; simp
theorem same_text {s : ByteArray} {n : Nat} (h : s.data.toList = enc n) : s = encS n := by
  show s = ⟨(enc n).toArray⟩
  rw [← h]
theorem cat_z (R : Nat) (a : ByteArray) (k : Nat) (h : k < a.size) (e : Nat) (he : e = (encS R).size + (min (k + 1) a.size - k)) (hz : ((encS R ++ a.extract k (k + 1))[0]'(cat_pos R a k h)).toNat = 0) :
    (encS R ++ a.extract k (k + 1)).extract 1 e = encS (R * 256 + a[k].toNat) := by
  have hc := cat1 R a k h
  by_cases h0 : R = 0
  · subst h0
    have h1 := head0 _ (cat_pos 0 a k h) [] a[k] hc
    rw [h1] at hz
    apply same_text
    rw [hz, ByteArray.data_extract, Array.toList_extract, List.extract_eq_take_drop, hc]
    simp [enc_zero]
  · exfalso
    have hne := enc_ne_nil R (by omega)
    cases hl : enc R with
    | nil => exact hne hl
    | cons x l =>
      rw [hl] at hc
      have h1 := head0 _ (cat_pos R a k h) _ _ hc
      rw [h1] at hz
      have hn := natl_enc R
      rw [hl] at hn
      simp only [natl, bne_iff_ne] at hn
      exact hn (UInt8.toNat_inj.1 hz)
theorem cat_nz (R : Nat) (a : ByteArray) (k : Nat) (h : k < a.size) (hz : ¬ ((encS R ++ a.extract k (k + 1))[0]'(cat_pos R a k h)).toNat = 0) :
    encS R ++ a.extract k (k + 1) = encS (R * 256 + a[k].toNat) := by
  have hc := cat1 R a k h
  apply same_text
  rw [hc, enc_step R _ a[k].toNat_lt, if_neg]
  · simp
  · rintro ⟨rfl, h0⟩
    have h1 := head0 _ (cat_pos 0 a k h) [] a[k] hc
    rw [h1] at hz
    exact hz h0

theorem div_mod_of (t B n : Nat) (h1 : t * B ≤ n) (h2 : n - t * B < B) : t = n / B ∧ n - t * B = n % B := by
  have e : n = (n - t * B) + B * t := by rw [Nat.mul_comm B t]; omega
  have hB : 0 < B := by omega
  constructor
  · conv => rhs; rw [e]
    rw [Nat.add_mul_div_left _ _ hB, Nat.div_eq_of_lt h2, Nat.zero_add]
  · conv => rhs; rw [e]
    rw [Nat.add_mul_mod_self_left, Nat.mod_eq_of_lt h2]

set_option maxHeartbeats 4000000 in
theorem divide_ref (a b : ByteArray) (w : World) (n2 : isN b = true) (s1 : a.size ≤ 256) (s2 : b.size ≤ 256) (hB : 0 < nv b) :
    Calls Try.prog 111 #[.string a, .string b] w fun e w' => e = .returned (.tuple #[.string (encS (nv a / nv b)), .string (encS (nv a % nv b))]) ∧ Below w.heap.size w w' := by
  go_enter Try.func111, Try.ntmps111
  go_wp2_with fail
  go_loopw [6, 7, 8] (fun q r i wr => ∃ k : Nat, k ≤ a.size ∧ i = .int .i64 (k : Int) ∧ r = .string (encS (val (a.data.toList.take k) % nv b)) ∧ OwnB wr w.heap.size q (enc (val (a.data.toList.take k) / nv b)) ∧ Below w.heap.size w wr) (fun _ _ i _ => a.size - (intOf i).toNat)
  case atStart => exact ⟨0, Nat.zero_le _, rfl, by rw [List.take_zero, val_nil, Nat.zero_mod, encS0_eq'], by rw [List.take_zero, val_nil, Nat.zero_div]; exact OwnB.lit0 w, (Below.refl _ _).alloc (Nat.le_refl _) _⟩
  case round =>
    obtain ⟨k, hk, rfl, rfl, hq, hbl⟩ := hrel
    by_cases h0 : k < a.size
    · have hv_ := val_take_succ k h0
      have hc256 := a[k].toNat_lt
      have hvlt : nv b < 256 ^ 256 := by
        have h1 := val_lt b.data.toList
        rw [sdata_length] at h1
        exact Nat.lt_of_lt_of_le h1 (Nat.pow_le_pow_right (by omega) s2)
      have hR0 : val (a.data.toList.take k) % nv b < nv b := Nat.mod_lt _ hB
      have hQl : (enc (val (a.data.toList.take k) / nv b)).length ≤ 256 := by
        rw [enc_length_le]
        refine Nat.lt_of_le_of_lt (Nat.div_le_self _ _) (Nat.lt_of_le_of_lt (val_take_le k) ?_)
        have h1 := val_lt a.data.toList
        rw [sdata_length] at h1
        exact Nat.lt_of_lt_of_le h1 (Nat.pow_le_pow_right (by omega) s1)
      generalize hR : val (a.data.toList.take k) % nv b = R at *
      generalize hQ : val (a.data.toList.take k) / nv b = Q at *
      have HRB := Lib.hid hR
      have HQB := Lib.hid hQ
      have HRL := Lib.hid hR0
      have HQL := Lib.hid hQl
      have hcz := cat_z R a k h0 _ rfl
      have hcn := cat_nz R a k h0
      have hpos := cat_pos R a k h0
      have hsz : (encS R).size ≤ 256 := by
        rw [size_encS, enc_length_le]
        exact Nat.lt_trans hR0 hvlt
      have hpos2 : 0 < (encS R).size + (min (k + 1) a.size - k) := by omega
      have hRc : Hid ((enc (R * 256 + a[k].toNat)).length ≤ 257) := Lib.hid (by
        rw [enc_step R _ hc256]
        rw [size_encS] at hsz
        split
        · simp
        · rw [List.length_append]; simp; omega)
      generalize hc : a[k].toNat = c at *
      have HV := Lib.hid hv_
      have HC := Lib.hid hc256
      clear hR hQ hvlt hR0 hQl hv_ hc hc256
      by_cases hz : ((encS R ++ a.extract k (k + 1))[0]'hpos).toNat = 0
      · have hz' : ((((encS R ++ a.extract k (k + 1))[0]'hpos).toNat : Int) == 0) = true := by
          rw [hz]; rfl
        replace hcz := Lib.hid (hcz hz)
        clear hcn
        have hr : (encS R ++ a.extract k (k + 1)).extract 1 ((encS R).size + (min (k + 1) a.size - k)) = encS (R * 256 + c) := hcz.out
        go_wp2_with fail
        clear hr hz hz'
        obtain ⟨wo, rfl⟩ : ∃ wo, wo = wr := ⟨_, rfl⟩
        go_loopw [7, 9] (fun r d wq => ∃ t : Nat, d = .int .i64 (t : Int) ∧ r = .string (encS (R * 256 + c - t * nv b)) ∧ t * nv b ≤ R * 256 + c ∧ Below wo.heap.size wo wq) (fun _ d _ => R * 256 + c + 1 - (intOf d).toNat)
        case atStart => exact ⟨0, rfl, by rw [Nat.zero_mul]; rfl, by omega, Below.refl _ _⟩
        case round =>
          obtain ⟨t, rfl, rfl, ht, hbq⟩ := hrel
          have htR : t ≤ R * 256 + c := Nat.le_trans (by have := Nat.mul_le_mul_left t hB; omega) ht
          have hm1 := isN_encS (R * 256 + c - t * nv b)
          have hs1 : (encS (R * 256 + c - t * nv b)).size ≤ 257 := by
            rw [size_encS]
            exact Nat.le_trans (enc_len_mono (Nat.sub_le _ _)) hRc.out
          have hl := fun w => less_ref (encS (R * 256 + c - t * nv b)) b w hm1 n2 (by unfold maxLen; omega) (by unfold maxLen; omega)
          rw [nv_encS] at hl
          by_cases hlt : R * 256 + c - t * nv b < nv b
          · rw [decide_eq_true hlt] at hl
            obtain ⟨hd1, hd2⟩ := div_mod_of t (nv b) (R * 256 + c) ht hlt
            have ht256 : t < 256 := by
              rw [hd1]
              rw [Nat.div_lt_iff_lt_mul hB]
              have : R < nv b := HRL.out
              have := HC.out
              omega
            rw [hd2] at hl ⊢
            have HD1 := Lib.hid hd1
            have hbq2 : Below w.heap.size w wr := hbl.trans (hbq.mono hbl.size)
            have hq2 := hq.below hbq
            obtain ⟨ob, cb, hv, hcb, hcbm⟩ := hq2.shp
            rw [List.length_map] at hv hcb
            subst hv
            have hQl := (enc_length_le Q 256)
            have hl2 : ((enc Q).map UInt8.toNat).length + 1 ≤ 4294967296 := by
              rw [List.length_map]
              have := HQL.out
              omega
            have HQE := Lib.hid (enc_step Q t ht256)
            have hP := HV.out
            have hnext := div_step (val (a.data.toList.take k)) (nv b) c hB
            rw [HRB.out, HQB.out, ← hP] at hnext
            have HN := Lib.hid hnext
            have htw : ((UInt8.ofNat t).toNat : Int) = t := by
              have : (UInt8.ofNat t).toNat = t := by simp; omega
              omega
            have HTW := Lib.hid htw
            have HL := Lib.hid hl
            clear hnext hP hd1 hd2 hlt hl hs1 hm1 ht hQl htw hq htR
            by_cases htp : 0 < t
            · skip
              have HQ2 : Hid (enc (Q * 256 + t) = enc Q ++ [UInt8.ofNat t]) := Lib.hid (by rw [HQE.out, if_neg]; rintro ⟨h1, h2⟩; omega)
              go_wp2_with fail
              refine (HL.out _).mono ?_
              rintro e w5 ⟨rfl, n5, rfl⟩
              go_wp2_with (at_builtin; refine append1 (wr.drewN n5) rfl _ _ 149 rfl w.heap.size 5 .u8 1 info_u8 Try.underlying149 _ ((enc Q).map UInt8.toNat) (hq2.drewN n5) rfl _ _ (UInt8.ofNat t).toNat HTW.out.symm rfl hl2 (by omega) hbq2.size ?_)
              intro v' w6 hown' hgrow
              have hbl6 := grown_below (below_drewN hbq2 n5) (hq2.drewN n5) hgrow hbq2.size
              clear hgrow hq2 hbq2
              go_wp2_with fail
              go_roundw
              case rel => exact ⟨k + 1, by omega, by go_num, by rw [HN.out.2], by rw [HN.out.1, ← HD1.out, HQ2.out]; unfold OwnB; simpa using hown', hbl6⟩
              case measure => simp [intOf]; omega
            · obtain rfl : t = 0 := by omega
              by_cases hqp : 0 < (enc Q).length
              · skip
                have HQ2 : Hid (enc (Q * 256 + 0) = enc Q ++ [UInt8.ofNat 0]) := Lib.hid (by rw [HQE.out, if_neg]; rintro ⟨h1, h2⟩; subst h1; simp [enc_zero] at hqp)
                go_wp2_with fail
                refine (HL.out _).mono ?_
                rintro e w5 ⟨rfl, n5, rfl⟩
                go_wp2_with (at_builtin; refine append1 (wr.drewN n5) rfl _ _ 149 rfl w.heap.size 5 .u8 1 info_u8 Try.underlying149 _ ((enc Q).map UInt8.toNat) (hq2.drewN n5) rfl _ _ (UInt8.ofNat 0).toNat HTW.out.symm rfl hl2 (by omega) hbq2.size ?_)
                intro v' w6 hown' hgrow
                have hbl6 := grown_below (below_drewN hbq2 n5) (hq2.drewN n5) hgrow hbq2.size
                clear hgrow hq2 hbq2
                go_wp2_with fail
                go_roundw
                case rel => exact ⟨k + 1, by omega, by go_num, by rw [HN.out.2], by rw [HN.out.1, ← HD1.out, HQ2.out]; unfold OwnB; simpa using hown', hbl6⟩
                case measure => simp [intOf]; omega
              · have hq0 : Q = 0 := by
                  apply Decidable.byContradiction
                  intro h
                  have := List.length_pos_iff.2 (enc_ne_nil Q (by omega))
                  omega
                have HQ0 := Lib.hid hq0
                clear hq0
                go_wp2_with fail
                refine (HL.out _).mono ?_
                rintro e w5 ⟨rfl, n5, rfl⟩
                go_wp2_with fail
                go_roundw
                case rel => exact ⟨k + 1, by omega, by go_num, by rw [HN.out.2], by rw [HN.out.1, ← HD1.out, HQE.out, if_pos ⟨HQ0.out, trivial⟩]; have h := hq2.drewN n5; rw [HQ0.out, enc_zero] at h; rw [HQ0.out] ; exact h, below_drewN hbq2 n5⟩
                case measure => simp [intOf]; omega
          · rw [decide_eq_false hlt] at hl
            have HL := Lib.hid hl
            have ht2 : (t + 1) * nv b ≤ R * 256 + c := by rw [Nat.add_mul]; omega
            have hmin := fun w => minus_any (encS (R * 256 + c - t * nv b)) b w (by omega) (size_le_of hm1 n2 (by rw [nv_encS]; omega)) (by rw [nv_encS]; omega)
            rw [nv_encS, show R * 256 + c - t * nv b - nv b = R * 256 + c - (t + 1) * nv b by rw [Nat.add_mul]; omega] at hmin
            have HM := Lib.hid hmin
            have HT2 := Lib.hid ht2
            have htb : (t : Int) < 9223372036854775800 := by
              have h1 : t < 65536 := by
                have : R < nv b := HRL.out
                have h2 : t * nv b ≤ R * 256 + c := ht
                have h3 : R * 256 + c < 256 * nv b := by have := HC.out; omega
                have h4 : t < 256 := by
                  apply Decidable.byContradiction
                  intro hc
                  have := Nat.mul_le_mul_right (nv b) (show 256 ≤ t by omega)
                  omega
                omega
              omega
            have HTR : Hid (t < R * 256 + c) := Lib.hid (by
              have h1 := Nat.mul_le_mul_left (t + 1) hB
              omega)
            clear hl hlt hmin hs1 hm1 ht ht2 htR
            go_wp2_with fail
            refine (HL.out _).mono ?_
            rintro e w5 ⟨rfl, n5, rfl⟩
            go_wp2_with fail
            refine (HM.out _).mono ?_
            rintro e w6 ⟨rfl, hb6⟩
            go_wp2_with fail
            go_roundw
            case rel => exact ⟨t + 1, by go_num, rfl, HT2.out, hbq.trans ((below_drewN (Below.refl _ _) n5).trans (hb6.mono hbq.size))⟩
            case measure => have := HTR.out; simp [intOf]; omega
      · have hz' : ((((encS R ++ a.extract k (k + 1))[0]'hpos).toNat : Int) == 0) = false := by
          rw [beq_eq_false_iff_ne]; omega
        replace hcn := Lib.hid (hcn hz)
        clear hcz
        go_wp2_with fail
        generalize ((encS R ++ a.extract k (k + 1))[0]'hpos).toNat = z0 at *
        generalize encS R ++ a.extract k (k + 1) = T at *
        obtain rfl := hcn.out
        clear hz hz' hcn
        obtain ⟨wo, rfl⟩ : ∃ wo, wo = wr := ⟨_, rfl⟩
        go_loopw [7, 9] (fun r d wq => ∃ t : Nat, d = .int .i64 (t : Int) ∧ r = .string (encS (R * 256 + c - t * nv b)) ∧ t * nv b ≤ R * 256 + c ∧ Below wo.heap.size wo wq) (fun _ d _ => R * 256 + c + 1 - (intOf d).toNat)
        case atStart => exact ⟨0, rfl, by rw [Nat.zero_mul]; rfl, by omega, Below.refl _ _⟩
        case round =>
          obtain ⟨t, rfl, rfl, ht, hbq⟩ := hrel
          have htR : t ≤ R * 256 + c := Nat.le_trans (by have := Nat.mul_le_mul_left t hB; omega) ht
          have hm1 := isN_encS (R * 256 + c - t * nv b)
          have hs1 : (encS (R * 256 + c - t * nv b)).size ≤ 257 := by
            rw [size_encS]
            exact Nat.le_trans (enc_len_mono (Nat.sub_le _ _)) hRc.out
          have hl := fun w => less_ref (encS (R * 256 + c - t * nv b)) b w hm1 n2 (by unfold maxLen; omega) (by unfold maxLen; omega)
          rw [nv_encS] at hl
          by_cases hlt : R * 256 + c - t * nv b < nv b
          · rw [decide_eq_true hlt] at hl
            obtain ⟨hd1, hd2⟩ := div_mod_of t (nv b) (R * 256 + c) ht hlt
            have ht256 : t < 256 := by
              rw [hd1]
              rw [Nat.div_lt_iff_lt_mul hB]
              have : R < nv b := HRL.out
              have := HC.out
              omega
            rw [hd2] at hl ⊢
            have HD1 := Lib.hid hd1
            have hbq2 : Below w.heap.size w wr := hbl.trans (hbq.mono hbl.size)
            have hq2 := hq.below hbq
            obtain ⟨ob, cb, hv, hcb, hcbm⟩ := hq2.shp
            rw [List.length_map] at hv hcb
            subst hv
            have hQl := (enc_length_le Q 256)
            have hl2 : ((enc Q).map UInt8.toNat).length + 1 ≤ 4294967296 := by
              rw [List.length_map]
              have := HQL.out
              omega
            have HQE := Lib.hid (enc_step Q t ht256)
            have hP := HV.out
            have hnext := div_step (val (a.data.toList.take k)) (nv b) c hB
            rw [HRB.out, HQB.out, ← hP] at hnext
            have HN := Lib.hid hnext
            have htw : ((UInt8.ofNat t).toNat : Int) = t := by
              have : (UInt8.ofNat t).toNat = t := by simp; omega
              omega
            have HTW := Lib.hid htw
            have HL := Lib.hid hl
            clear hnext hP hd1 hd2 hlt hl hs1 hm1 ht hQl htw hq htR
            by_cases htp : 0 < t
            · skip
              have HQ2 : Hid (enc (Q * 256 + t) = enc Q ++ [UInt8.ofNat t]) := Lib.hid (by rw [HQE.out, if_neg]; rintro ⟨h1, h2⟩; omega)
              go_wp2_with fail
              refine (HL.out _).mono ?_
              rintro e w5 ⟨rfl, n5, rfl⟩
              go_wp2_with (at_builtin; refine append1 (wr.drewN n5) rfl _ _ 149 rfl w.heap.size 5 .u8 1 info_u8 Try.underlying149 _ ((enc Q).map UInt8.toNat) (hq2.drewN n5) rfl _ _ (UInt8.ofNat t).toNat HTW.out.symm rfl hl2 (by omega) hbq2.size ?_)
              intro v' w6 hown' hgrow
              have hbl6 := grown_below (below_drewN hbq2 n5) (hq2.drewN n5) hgrow hbq2.size
              clear hgrow hq2 hbq2
              go_wp2_with fail
              go_roundw
              case rel => exact ⟨k + 1, by omega, by go_num, by rw [HN.out.2], by rw [HN.out.1, ← HD1.out, HQ2.out]; unfold OwnB; simpa using hown', hbl6⟩
              case measure => simp [intOf]; omega
            · obtain rfl : t = 0 := by omega
              by_cases hqp : 0 < (enc Q).length
              · skip
                have HQ2 : Hid (enc (Q * 256 + 0) = enc Q ++ [UInt8.ofNat 0]) := Lib.hid (by rw [HQE.out, if_neg]; rintro ⟨h1, h2⟩; subst h1; simp [enc_zero] at hqp)
                go_wp2_with fail
                refine (HL.out _).mono ?_
                rintro e w5 ⟨rfl, n5, rfl⟩
                go_wp2_with (at_builtin; refine append1 (wr.drewN n5) rfl _ _ 149 rfl w.heap.size 5 .u8 1 info_u8 Try.underlying149 _ ((enc Q).map UInt8.toNat) (hq2.drewN n5) rfl _ _ (UInt8.ofNat 0).toNat HTW.out.symm rfl hl2 (by omega) hbq2.size ?_)
                intro v' w6 hown' hgrow
                have hbl6 := grown_below (below_drewN hbq2 n5) (hq2.drewN n5) hgrow hbq2.size
                clear hgrow hq2 hbq2
                go_wp2_with fail
                go_roundw
                case rel => exact ⟨k + 1, by omega, by go_num, by rw [HN.out.2], by rw [HN.out.1, ← HD1.out, HQ2.out]; unfold OwnB; simpa using hown', hbl6⟩
                case measure => simp [intOf]; omega
              · have hq0 : Q = 0 := by
                  apply Decidable.byContradiction
                  intro h
                  have := List.length_pos_iff.2 (enc_ne_nil Q (by omega))
                  omega
                have HQ0 := Lib.hid hq0
                clear hq0
                go_wp2_with fail
                refine (HL.out _).mono ?_
                rintro e w5 ⟨rfl, n5, rfl⟩
                go_wp2_with fail
                go_roundw
                case rel => exact ⟨k + 1, by omega, by go_num, by rw [HN.out.2], by rw [HN.out.1, ← HD1.out, HQE.out, if_pos ⟨HQ0.out, trivial⟩]; have h := hq2.drewN n5; rw [HQ0.out, enc_zero] at h; rw [HQ0.out] ; exact h, below_drewN hbq2 n5⟩
                case measure => simp [intOf]; omega
          · rw [decide_eq_false hlt] at hl
            have HL := Lib.hid hl
            have ht2 : (t + 1) * nv b ≤ R * 256 + c := by rw [Nat.add_mul]; omega
            have hmin := fun w => minus_any (encS (R * 256 + c - t * nv b)) b w (by omega) (size_le_of hm1 n2 (by rw [nv_encS]; omega)) (by rw [nv_encS]; omega)
            rw [nv_encS, show R * 256 + c - t * nv b - nv b = R * 256 + c - (t + 1) * nv b by rw [Nat.add_mul]; omega] at hmin
            have HM := Lib.hid hmin
            have HT2 := Lib.hid ht2
            have htb : (t : Int) < 9223372036854775800 := by
              have h1 : t < 65536 := by
                have : R < nv b := HRL.out
                have h2 : t * nv b ≤ R * 256 + c := ht
                have h3 : R * 256 + c < 256 * nv b := by have := HC.out; omega
                have h4 : t < 256 := by
                  apply Decidable.byContradiction
                  intro hc
                  have := Nat.mul_le_mul_right (nv b) (show 256 ≤ t by omega)
                  omega
                omega
              omega
            have HTR : Hid (t < R * 256 + c) := Lib.hid (by
              have h1 := Nat.mul_le_mul_left (t + 1) hB
              omega)
            clear hl hlt hmin hs1 hm1 ht ht2 htR
            go_wp2_with fail
            refine (HL.out _).mono ?_
            rintro e w5 ⟨rfl, n5, rfl⟩
            go_wp2_with fail
            refine (HM.out _).mono ?_
            rintro e w6 ⟨rfl, hb6⟩
            go_wp2_with fail
            go_roundw
            case rel => exact ⟨t + 1, by go_num, rfl, HT2.out, hbq.trans ((below_drewN (Below.refl _ _) n5).trans (hb6.mono hbq.size))⟩
            case measure => have := HTR.out; simp [intOf]; omega
    · obtain rfl : k = a.size := by omega
      have e1 : val (a.data.toList.take a.size) = nv a := by
        rw [List.take_of_length_le (by rw [sdata_length]; omega)]
        rfl
      rw [e1] at hq ⊢
      have hcv := fun d hd => OwnN.str (P := Try.prog) hq 149 d Try.underlying149 Try.underlying5 hd
      obtain ⟨ob, cb, hv, hcb, hcbm⟩ := hq.shp
      rw [List.length_map] at hv hcb
      subst hv
      clear e1
      go_wp2_with fail
      go_ret2
      exact ⟨rfl, hbl⟩

end Go.Proofs.Ytmcejefeloljiaa

/-
  Facts about numbers and texts.
-/
namespace Go.Proofs.Ytmcejefeloljiaa
set_option linter.unusedVariables false
set_option linter.unusedSimpArgs false
open Go.RowKit Nm

theorem encS0_eq : encS 0 = ⟨#[]⟩ := by rw [← bE_encS]; rfl
theorem encS0_empty : (encS 0).toList.isEmpty = true := by rw [encS0_eq]; decide +kernel
theorem chk_way {a b : ByteArray} (h : chkN [a, b] ≠ 0) :
    (chkN [a, b] = 2 ∨ chkN [a, b] = 60) ∧ ((chkN [a] = 2 ∨ chkN [a] = 60) ∨ (chkN [a] = 0 ∧ (chkN [b] = 2 ∨ chkN [b] = 60))) := by
  simp only [chkN, List.all_cons, List.all_nil, Bool.and_true] at *
  generalize isN a = x at *
  generalize isN b = y at *
  generalize decide (a.size ≤ 256) = u at *
  generalize decide (b.size ≤ 256) = v at *
  cases x <;> cases y <;> cases u <;> cases v <;> revert h <;> decide
theorem size_bE {b : ByteArray} (h : b.size = 0) : b = bE := by
  have h' : b.data = #[] := Array.eq_empty_of_size_eq_zero h
  show b = ⟨#[]⟩
  rw [← h']
theorem size_ne {b : ByteArray} (h : ¬ b.size = 0) : ¬ b.toList = [] := by
  intro hc
  have := isEmpty_false (s := b) (by omega)
  rw [hc] at this
  cases this
theorem bE_nil : bE.toList = [] := by decide +kernel
theorem enc0_nil : (encS 0).toList = [] := bE_nil
theorem mod_nil {n : Nat} (h : n = 0) : (encS n).toList = [] := by rw [h]; exact enc0_nil
theorem mod_ne {n : Nat} (h : ¬ n = 0) : ¬ (encS n).toList = [] := by
  apply size_ne
  intro hc
  apply h
  have := nv_encS n
  rw [size_bE hc] at this
  rw [← this]
  decide +kernel
theorem chk_bad {a : ByteArray} (h : ¬ chkN [a] = 0) : chkN [a] = 2 ∨ chkN [a] = 60 := by
  simp only [chkN, List.all_cons, List.all_nil, Bool.and_true] at *
  generalize isN a = x at *
  generalize decide (a.size ≤ 256) = u at *
  cases x <;> cases u <;> revert h <;> decide
theorem pos_ne {n : Nat} (h : 0 < n) : ¬ (encS n).toList = [] := mod_ne (by omega)
theorem sm60 {n : Nat} (h : (encS n).size ≤ 60) : Sm n := by
  rw [size_encS] at h
  show (enc n).length ≤ 256
  omega
theorem gcd_len {A B k : Nat} (ha : (encS A).size ≤ k) (hb : (encS B).size ≤ k) : (encS (Nat.gcd A B)).size ≤ k := by
  rw [size_encS] at *
  by_cases h : 0 < A
  · exact Nat.le_trans (enc_len_mono (Nat.gcd_le_left B h)) ha
  · obtain rfl : A = 0 := by omega
    rw [Nat.gcd_zero_left]
    exact hb
theorem mul_len {A B : Nat} (ha : (encS A).size ≤ 60) (hb : (encS B).size ≤ 60) : Sm (A * B) := by
  rw [size_encS] at *
  have := enc_len_mul A B
  show (enc (A * B)).length ≤ 256
  omega
theorem cmp_neg {m n : Nat} (h : m < n) : cmpN m n < 0 := by rw [cmpN_lt h]; decide
theorem cmp_pos {m n : Nat} (h : n ≤ m) : 0 ≤ cmpN m n := by
  unfold cmpN
  split
  · omega
  · split <;> omega
theorem add_big {m n : Nat} (h : ¬ Sm (m + n)) : 255 ≤ (encS m).size ∨ ((encS m).size < 255 ∧ 255 ≤ (encS n).size) := by
  rw [size_encS, size_encS]
  apply Decidable.byContradiction
  intro hc
  exact h (enc_len_add m n 255 (by omega) (by omega))
theorem mul_big {m n : Nat} (h : ¬ Sm (m * n)) : 256 < (encS m).size + (encS n).size := by
  rw [size_encS, size_encS]
  apply Decidable.byContradiction
  intro hc
  exact h (Nat.le_trans (enc_len_mul m n) (by omega))
theorem pos_ie {n : Nat} (h : 0 < n) : (encS n).toList.isEmpty = false := by
  have := pos_ne h
  cases hc : (encS n).toList.isEmpty
  · rfl
  · exact absurd (List.isEmpty_iff.1 hc) this
theorem wrap_big {m n : Nat} (h : 256 < m + n) (hm : m ≤ 256) (hn : n ≤ 256) : decide ((256 : Int) < wrap64 (↑m + ↑n)) = true := by
  rw [decide_eq_true_iff]
  have e : wrap64 ((m : Int) + n) = m + n := by unfold wrap64; omega
  rw [e]
  omega
theorem int_div_nat (n m : Nat) : Int.tdiv ↑n ↑m = ((n / m : Nat) : Int) := (Int.ofNat_tdiv n m).symm
theorem int_mod_nat (n m : Nat) : Int.tmod ↑n ↑m = ((n % m : Nat) : Int) := (Int.ofNat_tmod n m).symm

end Go.Proofs.Ytmcejefeloljiaa

/-
  The walks of the reference for naturals: Div, Gcd, Few.
-/
namespace Go.Proofs.Ytmcejefeloljiaa
set_option linter.unusedVariables false
set_option linter.unusedSimpArgs false
open Go.RowKit Nm

set_option maxHeartbeats 1000000 in
theorem rDiv_any (a b : ByteArray) (w : World) :
    Calls Try.prog 55 #[.string a, .string b] w fun e w' => e = .returned (.tuple #[.string (divF a b).1, .string (divF a b).2.1, .int .i64 (divF a b).2.2]) ∧ Below w.heap.size w w' := by
  have h_ := fun w => both_any a b w
  by_cases h : chkN [a, b] = 0
  · obtain ⟨n1, n2, s1, s2⟩ := chk2_zero h
    rw [h] at h_
    have HB := Lib.hid h_
    by_cases h0 : 0 < nv b
    · have E : Hid (divF a b = (encS (nv a / nv b), encS (nv a % nv b), 0)) := Lib.hid (by rw [divF, if_pos h, if_neg (by omega)])
      have HM := Lib.hid (fun w => divide_ref a b w n2 s1 s2 h0)
      have hn : b.toList.isEmpty = false := by
        have := pos_ie h0
        rw [encS_nv b n2] at this
        exact this
      clear h_ h h0
      go_enter Try.func55, Try.ntmps55
      go_wp2_with fail
      refine (HB.out _).mono ?_
      rintro e w1 ⟨rfl, rfl⟩
      go_wp2_with fail
      refine (HM.out _).mono ?_
      rintro e w2 ⟨rfl, hb2⟩
      go_wp2_with fail
      go_ret3
      exact ⟨by rw [E.out]; rfl, hb2⟩
    · have h1 : nv b = 0 := by omega
      have E : Hid (divF a b = (bE, bE, 71)) := Lib.hid (by rw [divF, if_pos h, if_pos h1])
      have hn : b.toList.isEmpty = true := by
        have := encS0_empty
        rw [← h1, encS_nv b n2] at this
        exact this
      clear h_ h h0 h1
      go_enter Try.func55, Try.ntmps55
      go_wp2_with fail
      refine (HB.out _).mono ?_
      rintro e w1 ⟨rfl, rfl⟩
      go_wp2_with fail
      go_ret3
      exact ⟨by rw [E.out]; rfl, Below.refl _ _⟩
  · have E : Hid (divF a b = (bE, bE, chkN [a, b])) := Lib.hid (if_neg h)
    have HB := Lib.hid h_
    have h2 : (chkN [a, b] != 0) = true := by simpa using h
    clear h_ h
    go_enter Try.func55, Try.ntmps55
    go_wp2_with fail
    refine (HB.out _).mono ?_
    rintro e w1 ⟨rfl, rfl⟩
    go_wp2_with fail
    go_ret3
    exact ⟨by rw [E.out]; rfl, Below.refl _ _⟩

/-- the number of a text -/
def numOf : Value → Nat
  | .string s => nv s
  | _ => 0

set_option maxHeartbeats 1000000 in
theorem rGcd_any (a b : ByteArray) (w : World) :
    Calls Try.prog 62 #[.string a, .string b] w fun e w' => e = .returned (.tuple #[.string (gcdF a b).1, .int .i64 (gcdF a b).2]) ∧ Below w.heap.size w w' := by
  have h_ := fun w => both_any a b w
  by_cases h : chkN [a, b] = 0
  · obtain ⟨n1, n2, s1, s2⟩ := chk2_zero h
    rw [h] at h_
    have HB := Lib.hid h_
    have E : Hid (gcdF a b = (encS (Nat.gcd (nv a) (nv b)), 0)) := Lib.hid (if_pos h)
    obtain ⟨ea, sA⟩ := natE n1 s1
    obtain ⟨eb, sB⟩ := natE n2 s2
    have EA := Lib.hid ea
    have EB := Lib.hid eb
    clear h_ h ea eb n1 n2 s1 s2
    go_enter Try.func62, Try.ntmps62
    go_wp2_with fail
    refine (HB.out _).mono ?_
    rintro e w1 ⟨rfl, rfl⟩
    go_wp2_with fail
    go_loopw [0, 1] (fun x y wr => ∃ A B : Nat, x = .string (encS A) ∧ y = .string (encS B) ∧ Sm A ∧ Sm B ∧ Nat.gcd A B = Nat.gcd (nv a) (nv b) ∧ Below w.heap.size w wr) (fun _ y _ => numOf y)
    case atStart => exact ⟨nv a, nv b, by rw [← EA.out], by rw [← EB.out], sA, sB, rfl, Below.refl _ _⟩
    case round =>
      obtain ⟨A, B, rfl, rfl, hA, hB, hg, hbl⟩ := hrel
      have HG := Lib.hid hg
      clear hg
      by_cases h0 : 0 < B
      · have hn := pos_ie h0
        have hd := fun w => divide_ref (encS A) (encS B) w (isN_encS B) hA.size hB.size (by rw [nv_encS]; exact h0)
        simp only [nv_encS] at hd
        have HD := Lib.hid hd
        clear hd
        go_wp2_with fail
        refine (HD.out _).mono ?_
        rintro e w2 ⟨rfl, hb2⟩
        go_wp2_with fail
        go_roundw
        case rel => exact ⟨B, A % B, rfl, rfl, hB, hA.mono (Nat.mod_le _ _), by rw [← HG.out, Nat.gcd_comm B, ← Nat.gcd_rec, Nat.gcd_comm], hbl.trans (hb2.mono hbl.size)⟩
        case measure =>
          show nv (encS (A % B)) < nv (encS B)
          rw [nv_encS, nv_encS]
          exact Nat.mod_lt _ h0
      · obtain rfl : B = 0 := by omega
        have hn := encS0_empty
        go_wp2_with fail
        go_ret2
        exact ⟨by rw [E.out, ← HG.out, Nat.gcd_zero_right]; rfl, hbl⟩
  · have E : Hid (gcdF a b = (bE, chkN [a, b])) := Lib.hid (if_neg h)
    have HB := Lib.hid h_
    have h2 : (chkN [a, b] != 0) = true := by simpa using h
    clear h_ h
    go_enter Try.func62, Try.ntmps62
    go_wp2_with fail
    refine (HB.out _).mono ?_
    rintro e w1 ⟨rfl, rfl⟩
    go_wp2_with fail
    go_ret2
    exact ⟨by rw [E.out]; rfl, Below.refl _ _⟩

end Go.Proofs.Ytmcejefeloljiaa

/-
  The contracts of the reference of chapter 06, as a table for the symbolic executor.
-/
namespace Go.Proofs.Ytmcejefeloljiaa
set_option linter.unusedVariables false
open Go.RowKit Nm Go.SX

def refCon : ECon := fun f =>
  match f with
  | 56 => some (two addF)
  | 64 => some (two mulF)
  | 66 => some (two subF)
  | 62 => some (two gcdF)
  | 65 => some fun vs => match vs with
    | [.string a, .string b] => .need (szB a && szB b) (.ok (.ret (.tup [.val (.int .i64 (cmpF a b).1), .val (.int .i64 (cmpF a b).2)])))
    | _ => .no
  | 55 => some fun vs => match vs with
    | [.string a, .string b] => .need (szB a && szB b) (.ok (.ret (.tup [.val (.string (divF a b).1), .val (.string (divF a b).2.1), .val (.int .i64 (divF a b).2.2)])))
    | _ => .no
  | 61 => some fun vs => match vs with
    | [.string a] => .need (szB a) (.ok (.ret (.val (.int .i64 (chkN [a])))))
    | _ => .no
  | 104 => some fun vs => match vs with
    | [.int .i64 n] => .need (inI n) (.ok (.ret (.tup [.val (.string (ofF n).1), .val (.int .i64 (ofF n).2)])))
    | _ => .no
  | 117 => some fun vs => match vs with
    | [.string a] => .need (szB a) (.ok (.ret (.tup [.val (.int .i64 (intF a).1), .val (.bool (intF a).2)])))
    | _ => .no
  | f => apiCon f
theorem refCon_ok : EConOk Try.prog refCon := by
  intro f h hf
  unfold refCon at hf
  split at hf
  · cases hf; exact ⟨⟨_, Try.func56, rfl⟩, two_ok fun a b w ha hb => rAdd_any a b w⟩
  · cases hf; exact ⟨⟨_, Try.func64, rfl⟩, two_ok fun a b w ha hb => rMul_any a b w⟩
  · cases hf; exact ⟨⟨_, Try.func66, rfl⟩, two_ok fun a b w ha hb => rSub_any a b w⟩
  · cases hf; exact ⟨⟨_, Try.func62, rfl⟩, two_ok fun a b w ha hb => rGcd_any a b w⟩
  · cases hf
    refine ⟨⟨_, Try.func65, rfl⟩, fun vs e he => ?_⟩
    simp only at he
    split at he
    · obtain ⟨h1, h2⟩ := R3.need_some he
      cases h2
      rw [Bool.and_eq_true, szB_iff, szB_iff] at h1
      exact ⟨_, rfl, fun w => (rCompare_any _ _ w h1.1 h1.2).mono fun e' w' ⟨h3, k, h4⟩ => ⟨h3, h4 ▸ below_drewN (Below.refl _ _) k⟩⟩
    · cases he
  · cases hf
    refine ⟨⟨_, Try.func55, rfl⟩, fun vs e he => ?_⟩
    simp only at he
    split at he
    · obtain ⟨h1, h2⟩ := R3.need_some he
      cases h2
      exact ⟨_, rfl, fun w => rDiv_any _ _ w⟩
    · cases he
  · cases hf
    refine ⟨⟨_, Try.func61, rfl⟩, fun vs e he => ?_⟩
    simp only at he
    split at he
    · obtain ⟨h1, h2⟩ := R3.need_some he
      cases h2
      exact ⟨_, rfl, fun w => (rCheck_any _ w (szB_iff.1 h1)).mono fun e' w' h => ⟨h.1, by rw [← h.2]; exact Below.refl _ _⟩⟩
    · cases he
  · cases hf
    refine ⟨⟨_, Try.func104, rfl⟩, fun vs e he => ?_⟩
    simp only at he
    split at he
    · obtain ⟨h1, h2⟩ := R3.need_some he
      cases h2
      unfold inI at h1
      rw [Bool.and_eq_true] at h1
      exact ⟨_, rfl, fun w => rOf_any _ w (of_decide_eq_true h1.1) (of_decide_eq_true h1.2)⟩
    · cases he
  · cases hf
    refine ⟨⟨_, Try.func117, rfl⟩, fun vs e he => ?_⟩
    simp only at he
    split at he
    · obtain ⟨h1, h2⟩ := R3.need_some he
      cases h2
      exact ⟨_, rfl, fun w => (rInt_any _ w (szB_iff.1 h1)).mono fun e' w' h => ⟨h.1, by rw [← h.2]; exact Below.refl _ _⟩⟩
    · cases he
  · exact apiCon_ok _ _ hf

end Go.Proofs.Ytmcejefeloljiaa

/-
  What the symbolic executor shows of the inner functions of the reference for ratios.
-/
namespace Go.Proofs.Ytmcejefeloljiaa
open Go.RowKit Nm Go.SX

set_option maxRecDepth 100000 in
theorem T_rcheck (n : Bool) (a b : ByteArray) : sxEnd Try.prog Rd.no refCon.p 40 23 [.agg #[.bool n, .string a, .string b]] =
    bif szB a then
      bif chkN [a] != 0 then some (Ending.returned (Value.int IntKind.i64 70))
      else
        bif szB b then
          bif chkN [b] != 0 then some (Ending.returned (Value.int IntKind.i64 70))
          else
            bif b.toList == (bs []).toList then some (Ending.returned (Value.int IntKind.i64 70))
            else
              bif n then
                bif a.toList == (bs []).toList then some (Ending.returned (Value.int IntKind.i64 70))
                else
                  bif szB a && szB b then
                    bif !(gcdF a b).fst.toList == (bs [1]).toList then
                      some (Ending.returned (Value.int IntKind.i64 70))
                    else some (Ending.returned (Value.int IntKind.i64 0))
                  else none
              else
                bif szB a && szB b then
                  bif !(gcdF a b).fst.toList == (bs [1]).toList then
                    some (Ending.returned (Value.int IntKind.i64 70))
                  else some (Ending.returned (Value.int IntKind.i64 0))
                else none
        else none
    else none := by kernel_rfl
set_option maxRecDepth 100000 in
theorem T_rlow (n : Bool) (a b : ByteArray) : sxEnd Try.prog Rd.no refCon.p 40 51 [.bool n, .string a, .string b] =
    bif a.toList == (bs []).toList then
      some
        (Ending.returned
          (Value.agg { toList := [Value.bool false, Value.string (bs []), Value.string (bs [1])] }))
    else
      bif szB a && szB b then
        bif szB a && szB (gcdF a b).fst then
          bif szB b && szB (gcdF a b).fst then
            some
              (Ending.returned
                (Value.agg
                  {
                    toList :=
                      [Value.bool n, Value.string (divF a (gcdF a b).fst).fst, Value.string (divF b (gcdF a b).fst).fst] }))
          else none
        else none
      else none := by kernel_rfl
set_option maxRecDepth 100000 in
theorem T_ramount (n : Int) : sxEnd Try.prog Rd.no refCon.p 40 52 [.int .i64 n] =
    bif decide (n ≥ 0) then bif inI n then some (Ending.returned (Value.string (ofF n).fst)) else none
    else
      bif inI (IntKind.i64.wrap (0 - IntKind.i64.wrap (n + 1))) then
        bif szB (ofF (IntKind.i64.wrap (0 - IntKind.i64.wrap (n + 1)))).fst && szB (bs [1]) then
          some
            (Ending.returned
              (Value.string (addF (ofF (IntKind.i64.wrap (0 - IntKind.i64.wrap (n + 1)))).fst (bs [1])).fst))
        else none
      else none := by kernel_rfl

end Go.Proofs.Ytmcejefeloljiaa

/-
  The reference for ratios: its inner functions, and their table.
-/
namespace Go.Proofs.Ytmcejefeloljiaa
set_option linter.unusedSimpArgs false
set_option linter.unusedVariables false
open Go.RowKit Nm Go.SX

/-- a ratio in lowest terms -/
def lowS (neg : Bool) (n d : ByteArray) : Rt := if isE n then ⟨false, bs [], bs [1]⟩ else ⟨neg, (divF n (gcdF n d).1).1, (divF d (gcdF n d).1).1⟩
theorem rcheck_end (n : Bool) (a b : ByteArray) (ha : szB a = true) (hb : szB b = true) : sxEnd Try.prog Rd.no refCon.p 40 23 [.agg #[.bool n, .string a, .string b]] = some (.returned (.int .i64 (checkR ⟨n, a, b⟩))) := by
  rw [T_rcheck, ha, hb]
  unfold checkR badR
  have e1 : (⟨#[1]⟩ : ByteArray) = bs [1] := rfl
  simp only [eqL, isE_bs, cond_true, Bool.and_self, e1, dne]
  generalize (chkN [a] != 0) = x
  generalize (chkN [b] != 0) = y
  generalize hp : decide (b = bs []) = p
  generalize hq : decide (a = bs []) = q
  by_cases hg : (gcdF a b).1 = bs [1] <;> cases x <;> cases y <;> cases p <;> cases n <;> cases q <;> simp [hg]
theorem rlow_end (n : Bool) (a b : ByteArray) (ha : szB a = true) (hb : szB b = true) : sxEnd Try.prog Rd.no refCon.p 40 51 [.bool n, .string a, .string b] = some (.returned (rtV (lowS n a b))) := by
  rw [T_rlow, ha, hb, sz256 (gcdF_size a b)]
  unfold lowS
  simp only [eqL, isE_bs]
  cases decide (a = bs []) <;> rfl
theorem ramount_end (n : Int) (h : inI n = true) : sxEnd Try.prog Rd.no refCon.p 40 52 [.int .i64 n] = some (.returned (.string (encS n.natAbs))) := by
  have h0 := h
  unfold inI at h0
  rw [Bool.and_eq_true, decide_eq_true_eq, decide_eq_true_eq] at h0
  rw [T_ramount, h]
  by_cases hn : 0 ≤ n
  · have e : ofF n = (encS n.toNat, 0) := if_neg (by omega)
    have e2 : n.toNat = n.natAbs := by omega
    simp [e, hn, e2]
  · have w1 : IntKind.i64.wrap (n + 1) = n + 1 := wrapI (by omega) (by omega)
    have w2 : IntKind.i64.wrap (-(n + 1)) = -(n + 1) := wrapI (by omega) (by omega)
    have e : ofF (-(n + 1)) = (encS (-(n + 1)).toNat, 0) := if_neg (by omega)
    have hi : inI (-(n + 1)) = true := by unfold inI; rw [Bool.and_eq_true, decide_eq_true_eq, decide_eq_true_eq]; omega
    have hlt : (-(n + 1)).toNat ≤ 18446744073709551616 := by omega
    have hz : (0 : Int) - (n + 1) = -(n + 1) := by omega
    have hs := sz256 (enc_sm hlt)
    have h1 : bs [1] = encS 1 := by decide +kernel
    have hadd : addF (encS (-(n + 1)).toNat) (bs [1]) = (encS n.natAbs, 0) := by
      rw [h1]
      have hc : chkN [encS (-(n + 1)).toNat, encS 1] = 0 := chkE2 (by rw [← size_encS'] ; exact enc_sm hlt) (by rw [← size_encS']; decide +kernel)
      unfold addF
      rw [if_pos hc, nv_encS, nv_encS]
      unfold shortN
      rw [show (-(n + 1)).toNat + 1 = n.natAbs by omega, if_pos (enc_sm (by omega))]
    simp only [w1, hz, w2, e, hi, hs, hadd]
    simp [hn, show szB (bs [1]) = true by decide +kernel]
def r7aCon : ECon := fun f =>
  match f with
  | 23 => some fun vs => match vs with
    | [.agg ⟨[.bool n, .string a, .string b]⟩] => .need (szB a && szB b) (.ok (.ret (.val (.int .i64 (checkR ⟨n, a, b⟩)))))
    | _ => .no
  | 51 => some fun vs => match vs with
    | [.bool n, .string a, .string b] => .need (szB a && szB b) (.ok (.ret (.val (.agg #[.bool (lowS n a b).neg, .string (lowS n a b).n, .string (lowS n a b).d]))))
    | _ => .no
  | 52 => some fun vs => match vs with
    | [.int .i64 n] => .need (inI n) (.ok (.ret (.val (.string (encS n.natAbs)))))
    | _ => .no
  | f => refCon f
theorem r7aCon_ok : EConOk Try.prog r7aCon := by
  have pl : ∀ {f : FuncId} {vs : List Value} {e0 : Ending}, sxEnd Try.prog Rd.no refCon.p 40 f vs = some e0 → Plain Try.prog f vs e0 := fun h => plain_sound pOk (ECon.ok refCon_ok) 40 h
  intro f h hf
  unfold r7aCon at hf
  split at hf
  · cases hf
    refine ⟨⟨_, Try.func23, rfl⟩, fun vs e he => ?_⟩
    simp only at he
    split at he
    · obtain ⟨h1, h2⟩ := R3.need_some he
      cases h2
      rw [Bool.and_eq_true] at h1
      exact ⟨_, rfl, pl (rcheck_end _ _ _ h1.1 h1.2)⟩
    · cases he
  · cases hf
    refine ⟨⟨_, Try.func51, rfl⟩, fun vs e he => ?_⟩
    simp only at he
    split at he
    · obtain ⟨h1, h2⟩ := R3.need_some he
      cases h2
      rw [Bool.and_eq_true] at h1
      exact ⟨_, rfl, pl (rlow_end _ _ _ h1.1 h1.2)⟩
    · cases he
  · cases hf
    refine ⟨⟨_, Try.func52, rfl⟩, fun vs e he => ?_⟩
    simp only at he
    split at he
    · obtain ⟨h1, h2⟩ := R3.need_some he
      cases h2
      exact ⟨_, rfl, pl (ramount_end _ h1)⟩
    · cases he
  · exact refCon_ok _ _ hf

end Go.Proofs.Ytmcejefeloljiaa

