/-
  The walks of package naturals: less, double.
-/
import Derived.Test.YtieapjdabffjcaaNat
namespace Go.Proofs.Ytieapjdabffjcaa
open Go.RowKit Nm

/-- what is left of the subtrahend's digits, and what is done: the row -/
def lessRow (R A : List Nat) : List Nat := R ++ A.drop R.length
theorem lessRow_length (R A : List Nat) (h : R.length ≤ A.length) : (lessRow R A).length = A.length := by simp [lessRow]; omega
theorem lessRow_get (R A : List Nat) (k : Nat) (hR : R.length = k) (h : k < A.length) : (lessRow R A)[k]'(by rw [lessRow_length R A (by omega)]; exact h) = A[k] := by
  subst hR
  simp [lessRow, List.getElem_append_right]
theorem lessRow_set (R A : List Nat) (k r : Nat) (hR : R.length = k) (h : k < A.length) : (lessRow R A).set k r = lessRow (R ++ [r]) A := by
  subst hR
  unfold lessRow
  rw [List.set_append_right _ _ (Nat.le_refl _), Nat.sub_self, List.drop_eq_getElem_cons h, List.set_cons_zero]
  simp

/-- the relation of the loop of 'less' -/
def lessRel (w : World) (B n m g cap : Nat) (k : Nat) (c : Value) (wr : World) : Prop :=
  ∃ (c' : Nat) (R : List Nat), c' ≤ 1 ∧ c = .int .u64 (c' : Int) ∧ R.length = k ∧ small R ∧ dv R + dv ((digs m).take k) = dv ((digs n).take k) + c' * B32 ^ k ∧
      OwnU wr B (.slice (some ⟨g, 0, none⟩) (digs n).length cap) (lessRow R (digs n)) ∧ w.grownBy wr (some g)
theorem less_rel1 {w wr : World} {B n m g cap k c c' x y r : Nat} {R : List Nat} {z zc : Int} (hR : R.length = k) (hs : small R) (hlt : k < (digs n).length)
    (hI : dv R + dv ((digs m).take k) = dv ((digs n).take k) + c * B32 ^ k) (hown : OwnU wr B (.slice (some ⟨g, 0, none⟩) (digs n).length cap) (lessRow R (digs n))) (hgr : w.grownBy wr (some g))
    (hx : (digs n).getD k 0 = x) (hy : (digs m).getD k 0 = y) (hc : c' ≤ 1) (hr : r + c + y = x + c' * B32) (hrs : r < B32) (hz : z = (r : Int)) (hzc : zc = (c' : Int)) :
    lessRel w B n m g cap (k + 1) (.int .u64 zc) (wr.setCell ⟨g, k, none⟩ (.int .u64 z)) := by
  subst hz hzc
  refine ⟨c', R ++ [r], hc, rfl, by simp [hR], small_snoc hs hrs, less_step R _ _ k c c' r hR hI (by rw [hx, hy]; exact hr), ?_, grownBy_set hgr _ _⟩
  rw [← lessRow_set R (digs n) k r hR hlt]
  exact (OwnN.stored hown k r).1
theorem less_rel2 {w wr : World} {B n m g cap k c c' x y r : Nat} {R : List Nat} {z zc z' : Int} (hR : R.length = k) (hs : small R) (hlt : k < (digs n).length)
    (hI : dv R + dv ((digs m).take k) = dv ((digs n).take k) + c * B32 ^ k) (hown : OwnU wr B (.slice (some ⟨g, 0, none⟩) (digs n).length cap) (lessRow R (digs n))) (hgr : w.grownBy wr (some g))
    (hx : (digs n).getD k 0 = x) (hy : (digs m).getD k 0 = y) (hc : c' ≤ 1) (hr : r + c + y = x + c' * B32) (hrs : r < B32) (hz : z = (r : Int)) (hzc : zc = (c' : Int)) (q : Nat) (hq : z' = (q : Int)) :
    lessRel w B n m g cap (k + 1) (.int .u64 zc) ((wr.setCell ⟨g, k, none⟩ (.int .u64 z')).setCell ⟨g, k, none⟩ (.int .u64 z)) := by
  subst hz hzc hq
  refine ⟨c', R ++ [r], hc, rfl, by simp [hR], small_snoc hs hrs, less_step R _ _ k c c' r hR hI (by rw [hx, hy]; exact hr), ?_, grownBy_set (grownBy_set hgr _ _) _ _⟩
  rw [← lessRow_set R (digs n) k r hR hlt]
  have h := (OwnN.stored (OwnN.stored hown k q).1 k r).1
  rw [List.set_set] at h
  exact h

set_option maxHeartbeats 400000 in
theorem less_any (B B' : Nat) (v u : Value) (n m : Nat) (w : World) (hv : OwnU w B v (digs n)) (hu : OwnU w B' u (digs m)) (hmn : m ≤ n) (hln : (digs n).length ≤ 1048576) (hlm : (digs m).length ≤ 1048576) (hne : u.ownBlock = none ∨ u.ownBlock ≠ v.ownBlock) :
    Calls Try.prog 86 #[v, u] w fun e w' => ∃ v', e = .returned v' ∧ OwnU w' B v' (digs (n - m)) ∧ v'.ownBlock = v.ownBlock ∧ w.grownBy w' v.ownBlock := by
  obtain ⟨oa, cap, rfl, h1, h2, hcap, hcm⟩ := hv.shape
  obtain ⟨ob, cap', rfl, h3, h4, hcap', hcm'⟩ := hu.shape
  clear h1 h2 h3 h4
  unfold maxLen at hcm hcm'
  have HO := Lib.hid hv; clear hv
  have HO' := Lib.hid hu; clear hu
  have HNE := Lib.hid hne; clear hne
  go_enter Try.func86, Try.ntmps86
  go_wp2_with fail
  by_cases hn0 : (digs n).length = 0
  · have hn : n = 0 := (digs_eq_nil n).1 (List.eq_nil_of_length_eq_zero hn0)
    subst hn
    have hm : m = 0 := by omega
    subst hm
    refine wp_loop_rounds 1 ?_
    rw [rounds_succ]
    go_wp2_with fail
    refine (trim_any B _ [] w HO.out (by intro x hx; cases hx) (by simp)).mono ?_
    rintro e w' ⟨rfl, v', rfl, hown, hob⟩
    go_wp2_with fail
    go_ret
    exact ⟨v', rfl, hown, hob, World.grownBy.refl _ _⟩
  obtain ⟨g, rfl, hBg, hgw⟩ := OwnN.at HO.out (by omega)
  go_loopw [5, 10] (fun c i wr => ∃ k : Nat, k ≤ (digs n).length ∧ i = .int .i64 k ∧ lessRel w B n m g cap k c wr) (fun _ i _ => (digs n).length - (intOf i).toNat)
  case atStart => exact ⟨0, Nat.zero_le _, rfl, 0, [], by omega, rfl, rfl, (fun x hx => by cases hx), by simp [dv], HO.out, World.grownBy.refl _ _⟩
  case round =>
    obtain ⟨k, hk, rfl, c, R, hc, rfl, hR, hsR, hinv, hown, hgr⟩ := hrel
    have HR := Lib.hid hR; clear hR
    have HI := Lib.hid hinv; clear hinv
    by_cases hlt : k < (digs n).length
    · have hx := lessRow_get R (digs n) k HR.out hlt
      have hcx := OwnN.cell hown k (by rw [lessRow_length R _ (by rw [HR.out]; omega)]; exact hlt)
      rw [hx] at hcx
      have hfx := OwnN.frozen hown k
      clear hx
      have hxs := small_digs n (digs n)[k] (List.getElem_mem _)
      have hgx : (digs n).getD k 0 = (digs n)[k] := by simp [List.getD, hlt]
      generalize hxe : (digs n)[k] = x at *
      clear hxe
      have HGX := Lib.hid hgx; clear hgx
      unfold B32 at hxs
      by_cases hlt2 : k < (digs m).length
      · obtain ⟨g', rfl, _, _⟩ := OwnN.at HO'.out (by omega)
        have hgg : some g' ≠ some g := by
          rcases HNE.out with h | h
          · exact absurd h (by simp [Value.ownBlock])
          · simpa [Value.ownBlock] using h
        have hcy := OwnN.cellIn HO'.out hgr hgg k hlt2
        have hys := small_digs m (digs m)[k] (List.getElem_mem _)
        have hgy : (digs m).getD k 0 = (digs m)[k] := by simp [List.getD, hlt2]
        generalize hye : (digs m)[k] = y at *
        clear hye
        have HGY := Lib.hid hgy; clear hgy
        unfold B32 at hys
        have hgg2 : g' ≠ g := fun h => hgg (by rw [h])
        clear hgg
        by_cases hb : x < c + y
        · go_wp2_with fail
          go_roundw
          case rel => exact ⟨k + 1, by omega, by go_num, less_rel2 (r := x + 4294967296 - (c + y)) (c' := 1) HR.out hsR hlt HI.out hown hgr HGX.out HGY.out (by omega) (by unfold B32; omega) (by unfold B32; omega) (by omega) rfl (x + 4294967296) (by omega)⟩
          case measure => simp [intOf]; omega
        · go_wp2_with fail
          go_roundw
          case rel => exact ⟨k + 1, by omega, by go_num, less_rel1 (r := x - (c + y)) (c' := 0) HR.out hsR hlt HI.out hown hgr HGX.out HGY.out (by omega) (by unfold B32; omega) (by unfold B32; omega) (by omega) rfl⟩
          case measure => simp [intOf]; omega
      · have HGY : Hid ((digs m).getD k 0 = 0) := by
          show (digs m).getD k 0 = 0
          simp [List.getD, List.getElem?_eq_none (by omega : (digs m).length ≤ k)]
        by_cases hb : x < c
        · go_wp2_with fail
          go_roundw
          case rel => exact ⟨k + 1, by omega, by go_num, less_rel2 (r := x + 4294967296 - c) (c' := 1) HR.out hsR hlt HI.out hown hgr HGX.out HGY.out (by omega) (by unfold B32; omega) (by unfold B32; omega) (by omega) rfl (x + 4294967296) (by omega)⟩
          case measure => simp [intOf]; omega
        · go_wp2_with fail
          go_roundw
          case rel => exact ⟨k + 1, by omega, by go_num, less_rel1 (r := x - c) (c' := 0) HR.out hsR hlt HI.out hown hgr HGX.out HGY.out (by omega) (by unfold B32; omega) (by unfold B32; omega) (by omega) rfl⟩
          case measure => simp [intOf]; omega
    · obtain rfl : k = (digs n).length := by omega
      have he := less_end R n m c hsR HR.out hmn hc HI.out
      have HE := Lib.hid he; clear he
      have e1 : lessRow R (digs n) = R := by rw [lessRow, HR.out, List.drop_length, List.append_nil]
      rw [e1] at hown
      clear e1
      go_wp2_with fail
      refine (trim_any B _ R wr hown hsR (by rw [HR.out]; exact hln)).mono ?_
      rintro e w' ⟨rfl, v', rfl, hown', hob⟩
      go_wp2_with fail
      go_ret
      exact ⟨v', rfl, by rw [← HE.out]; exact hown', hob, hgr⟩

end Go.Proofs.Ytieapjdabffjcaa
