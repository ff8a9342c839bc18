/-
  The walks of package naturals: Add.
-/
import Derived.Test.YtieapjdabffjcaaNatApi
namespace Go.Proofs.Ytieapjdabffjcaa
open Go.RowKit Nm

/-- the relation of the loop of 'Add' -/
def addRel (w : World) (B : Nat) (X Y : List Nat) (k : Nat) (c l : Value) (wr : World) : Prop :=
  ∃ (c' : Nat) (R : List Nat), c' ≤ 1 ∧ c = .int .u64 (c' : Int) ∧ R.length = k ∧ small R ∧ dv R + c' * B32 ^ k = dv (X.take k) + dv (Y.take k) ∧ OwnU wr B l R ∧ Below B w wr ∧ (max X.length Y.length < k → c' = 0)

theorem add_rel {w wr w1 : World} {B k c x y : Nat} {X Y R : List Nat} {l l' : Value} {zc : Int} {E : TypeId} {v : Value} (hR : R.length = k) (hs : small R) (hc : c ≤ 1) (hxs : x < 4294967296) (hys : y < 4294967296)
    (hI : dv R + c * B32 ^ k = dv (X.take k) + dv (Y.take k)) (hown : OwnU w1 B l' (R ++ [(c + x + y) % 4294967296]))
    (hB : B ≤ wr.heap.size) (hbl : Below B w wr) (hol : OwnU wr B l R) (hgr : (wr.alloc (.cells #[v] E)).grownBy w1 l.ownBlock)
    (hx : X.getD k 0 = x) (hy : Y.getD k 0 = y) (hzc : zc = (((c + x + y) / 4294967296 : Nat) : Int)) : addRel w B X Y (k + 1) (.int .u64 zc) l' w1 := by
  subst hzc
  have e : B32 = 4294967296 := rfl
  refine ⟨(c + x + y) / 4294967296, R ++ [(c + x + y) % 4294967296], by omega, rfl, by simp [hR], small_snoc hs (Nat.mod_lt _ (by omega)), ?_, hown, grown_below hbl hol hgr hB, fun h => ?_⟩
  · have h := add_step R X Y k c hR hI
    rw [hx, hy, e] at h
    rw [e]; exact h
  · have hx0 : x = 0 := by rw [← hx]; simp [List.getD, List.getElem?_eq_none (by omega : X.length ≤ k)]
    have hy0 : y = 0 := by rw [← hy]; simp [List.getD, List.getElem?_eq_none (by omega : Y.length ≤ k)]
    omega

set_option maxHeartbeats 1000000 in
theorem add_loop (a b : ByteArray) (w : World) (ha : a.size ≤ maxLen) (hb : b.size ≤ maxLen) :
    Calls Try.prog 82 #[.string a, .string b] w fun e w' => e = .returned (.tuple #[.string (addF a b).1, .int .i64 (addF a b).2]) ∧ Below w.heap.size w w' := by
  go_enter Try.func82, Try.ntmps82
  go_wp2_with fail
  refine (check2 a b w ha hb).mono ?_
  rintro e w' ⟨rfl, rfl⟩
  have hbl : Below w.heap.size w (w.alloc (.cells #[.string a, .string b] 9)) := (Below.refl _ _).alloc (Nat.le_refl _) _
  generalize w.alloc (.cells #[.string a, .string b] 9) = w1 at *
  by_cases h : chkN [a, b] = 0
  · have E : Hid (addF a b = shortN (nv a + nv b)) := if_pos h
    obtain ⟨n1, n2, s1, s2⟩ := chk2_zero h
    rw [h]
    clear h ha hb
    have l1 := digs_of_size s1
    have l2 := digs_of_size s2
    go_wp2_with fail
    refine (words_nat a _ (by omega) n1).mono ?_
    rintro e w2 ⟨v, rfl, hv, hb2⟩
    go_wp2_with fail
    refine (words_nat b _ (by omega) n2).mono ?_
    rintro e w3 ⟨u, rfl, hu, hb3⟩
    have hbl3 := hbl.trans ((hb2.mono hbl.size).trans (hb3.mono (Nat.le_trans hbl.size hb2.size)))
    obtain ⟨oa, cap, rfl, hcap, hcm⟩ := hv.shp
    obtain ⟨ob, cap', rfl, hcap', hcm'⟩ := hu.shp
    have HV := Lib.hid (hv.below hb3)
    have HU := Lib.hid hu
    have HB3 := Lib.hid hbl3
    clear hv hu hb2 hb3 hbl hbl3
    go_wp2_with fail
    go_loopw [9, 10, 11] (fun l c i wr => ∃ k : Nat, k ≤ max (digs (nv a)).length (digs (nv b)).length + 1 ∧ i = .int .i64 k ∧ addRel w3 w3.heap.size (digs (nv a)) (digs (nv b)) k c l wr) (fun _ _ i _ => max (digs (nv a)).length (digs (nv b)).length + 2 - (intOf i).toNat)
    case atStart => exact ⟨0, Nat.zero_le _, rfl, 0, [], by omega, rfl, rfl, (fun x hx => by cases hx), by simp [dv], OwnN.nil _ _ _ _, Below.refl _ _, fun h => by omega⟩
    case round =>
      obtain ⟨k, hk, rfl, c, R, hc, rfl, hR, hsR, hI, hown, hbl, hlast⟩ := hrel
      obtain ⟨ol, cl, hlv, hcl, hclm⟩ := hown.shp
      rw [hR] at hlv hcl
      subst hlv
      have HR := Lib.hid hR
      have HI := Lib.hid hI
      have HL := Lib.hid hlast
      clear hR hI hlast
      have hxs := getD_lt (small_digs (nv a)) k
      have hys := getD_lt (small_digs (nv b)) k
      generalize hgx : (digs (nv a)).getD k 0 = x at hxs
      generalize hgy : (digs (nv b)).getD k 0 = y at hys
      unfold B32 at hxs hys
      have hx0 : (digs (nv a)).length ≤ k → x = 0 := fun h => by rw [← hgx]; simp [List.getD, List.getElem?_eq_none h]
      have hy0 : (digs (nv b)).length ≤ k → y = 0 := fun h => by rw [← hgy]; simp [List.getD, List.getElem?_eq_none h]
      have HX0 := Lib.hid hx0
      have HY0 := Lib.hid hy0
      have HGX := Lib.hid hgx
      have HGY := Lib.hid hgy
      clear hx0 hy0 hgx hgy
      by_cases hkx : k < (digs (nv a)).length
      · obtain ⟨g, rfl, hg1, hg2⟩ := OwnN.at HV.out (by omega)
        have hcx := (OwnN.below HV.out hbl).cell k hkx
        have hgx2 : (digs (nv a))[k] = x := by rw [← HGX.out]; simp [List.getD, hkx]
        rw [hgx2] at hcx
        clear hgx2
        by_cases hky : k < (digs (nv b)).length
        · obtain ⟨g', rfl, hg3, hg4⟩ := OwnN.at HU.out (by omega)
          have hcy := (OwnN.below HU.out hbl).cell k hky
          have hgy2 : (digs (nv b))[k] = y := by rw [← HGY.out]; simp [List.getD, hky]
          rw [hgy2] at hcy
          clear hgy2
          go_wp2_with (at_builtin; refine append1 wr rfl _ _ 69 rfl w3.heap.size 75 .u64 8 info_u64 Try.underlying69 _ R hown rfl _ _ ((c + x + y) % 4294967296) (mask32 (c + x + y) (by omega)) rfl (by rw [HR.out]; omega) (by omega) hbl.size ?_)
          intro l' w4 hown' hgrow
          have HRL := add_rel (x := x) (y := y) (zc := ((((c + x + y) / 4294967296 : Nat)) : Int)) HR.out hsR hc (by omega) (by omega) HI.out hown' hbl.size hbl hown hgrow HGX.out HGY.out rfl
          have HRL2 := Lib.hid HRL
          clear HRL hown' hgrow hown hbl hcx hcy
          go_wp2_with fail
          go_roundw
          case rel => exact ⟨k + 1, by omega, by go_num, by have := HRL2.out; rw [show (((c + x + y) / 4294967296 : Nat) : Int) = ((c : Int) + x + y) / 4294967296 from by omega] at this; exact this⟩
          case measure => simp [intOf]; omega
        · go_wp2_with (at_builtin; refine append1 wr rfl _ _ 69 rfl w3.heap.size 75 .u64 8 info_u64 Try.underlying69 _ R hown rfl _ _ ((c + x) % 4294967296) (mask32 (c + x) (by omega)) rfl (by rw [HR.out]; omega) (by omega) hbl.size ?_)
          intro l' w4 hown' hgrow
          have HRL := add_rel (x := x) (y := 0) (zc := ((((c + x) / 4294967296 : Nat)) : Int)) HR.out hsR hc (by omega) (by omega) HI.out hown' hbl.size hbl hown hgrow HGX.out (HGY.out.trans (HY0.out (by omega))) rfl
          have HRL2 := Lib.hid HRL
          clear HRL hown' hgrow hown hbl hcx
          go_wp2_with fail
          go_roundw
          case rel => exact ⟨k + 1, by omega, by go_num, by have := HRL2.out; rw [show (((c + x) / 4294967296 : Nat) : Int) = ((c : Int) + x) / 4294967296 from by omega] at this; exact this⟩
          case measure => simp [intOf]; omega
      · by_cases hky : k < (digs (nv b)).length
        · obtain ⟨g', rfl, hg3, hg4⟩ := OwnN.at HU.out (by omega)
          have hcy := (OwnN.below HU.out hbl).cell k hky
          have hgy2 : (digs (nv b))[k] = y := by rw [← HGY.out]; simp [List.getD, hky]
          rw [hgy2] at hcy
          clear hgy2
          go_wp2_with (at_builtin; refine append1 wr rfl _ _ 69 rfl w3.heap.size 75 .u64 8 info_u64 Try.underlying69 _ R hown rfl _ _ ((c + y) % 4294967296) (mask32 (c + y) (by omega)) rfl (by rw [HR.out]; omega) (by omega) hbl.size ?_)
          intro l' w4 hown' hgrow
          have HRL := add_rel (x := 0) (y := y) (zc := ((((c + y) / 4294967296 : Nat)) : Int)) HR.out hsR hc (by omega) (by omega) HI.out hown' hbl.size hbl hown hgrow (HGX.out.trans (HX0.out (by omega))) HGY.out rfl
          have HRL2 := Lib.hid HRL
          clear HRL hown' hgrow hown hbl hcy
          go_wp2_with fail
          go_roundw
          case rel => exact ⟨k + 1, by omega, by go_num, by have := HRL2.out; rw [show (((c + y) / 4294967296 : Nat) : Int) = ((c : Int) + y) / 4294967296 from by omega] at this; exact this⟩
          case measure => simp [intOf]; omega
        · by_cases hc0 : 0 < c
          · have hk2 : ¬ max (digs (nv a)).length (digs (nv b)).length < k := fun h => by have := HL.out h; omega
            go_wp2_with (at_builtin; refine append1 wr rfl _ _ 69 rfl w3.heap.size 75 .u64 8 info_u64 Try.underlying69 _ R hown rfl _ _ ((c) % 4294967296) (mask32 (c) (by omega)) rfl (by rw [HR.out]; omega) (by omega) hbl.size ?_)
            intro l' w4 hown' hgrow
            have HRL := add_rel (x := 0) (y := 0) (zc := ((((c) / 4294967296 : Nat)) : Int)) HR.out hsR hc (by omega) (by omega) HI.out hown' hbl.size hbl hown hgrow (HGX.out.trans (HX0.out (by omega))) (HGY.out.trans (HY0.out (by omega))) rfl
            have HRL2 := Lib.hid HRL
            clear HRL hown' hgrow hown hbl
            go_wp2_with fail
            go_roundw
            case rel => exact ⟨k + 1, by omega, by go_num, by have := HRL2.out; rw [show (((c) / 4294967296 : Nat) : Int) = ((c : Int)) / 4294967296 from by omega] at this; exact this⟩
            case measure => simp [intOf]; omega
          · obtain rfl : c = 0 := by omega
            have hd : dv R = nv a + nv b := by
              have h := HI.out
              rw [List.take_of_length_le (by omega), List.take_of_length_le (by omega), dv_digs, dv_digs] at h
              omega
            have HD := Lib.hid hd
            clear hd
            go_wp2_with fail
            refine (short_any _ _ R wr hown hsR (by rw [HR.out]; omega)).mono ?_
            rintro e w5 ⟨rfl, hb5⟩
            go_wp2_with fail
            go_ret2
            have hbw : Below w.heap.size w wr := HB3.out.trans (hbl.mono HB3.out.size)
            exact ⟨by rw [E.out, ← HD.out]; rfl, hbw.trans (hb5.mono hbw.size)⟩
  · have E : Hid (addF a b = (bE, chkN [a, b])) := if_neg h
    have h2 : (chkN [a, b] != 0) = true := by simpa using h
    go_wp2_with fail
    go_ret2
    exact ⟨by rw [E.out]; rfl, hbl⟩

end Go.Proofs.Ytieapjdabffjcaa
