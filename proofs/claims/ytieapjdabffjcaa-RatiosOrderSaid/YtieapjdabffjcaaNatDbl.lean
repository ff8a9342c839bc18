/-
  The walks of package naturals: double.
-/
import Derived.Test.YtieapjdabffjcaaNatLess
namespace Go.Proofs.Ytieapjdabffjcaa
open Go.RowKit Nm

/-- the relation of the loop of 'double' -/
def dblRel (w : World) (B n b0 g cap : Nat) (k : Nat) (c : Value) (wr : World) : Prop :=
  ∃ (c' : Nat) (R : List Nat), c' ≤ 1 ∧ c = .int .u64 (c' : Int) ∧ R.length = k ∧ small R ∧ dv R + c' * B32 ^ k = 2 * dv ((digs n).take k) + b0 ∧
      OwnU wr B (.slice (some ⟨g, 0, none⟩) (digs n).length cap) (lessRow R (digs n)) ∧ w.grownBy wr (some g)
theorem dbl_rel {w wr : World} {B n b0 g cap k c x : Nat} {R : List Nat} {z zc z' : Int} (hR : R.length = k) (hs : small R) (hlt : k < (digs n).length) (hc : c ≤ 1) (hxs : x < B32)
    (hI : dv R + c * B32 ^ k = 2 * dv ((digs n).take k) + b0) (hown : OwnU wr B (.slice (some ⟨g, 0, none⟩) (digs n).length cap) (lessRow R (digs n))) (hgr : w.grownBy wr (some g))
    (hx : (digs n).getD k 0 = x) (hz' : z' = ((2 * x + c : Nat) : Int)) (hz : z = (((2 * x + c) % B32 : Nat) : Int)) (hzc : zc = (((2 * x + c) / B32 : Nat) : Int)) :
    dblRel w B n b0 g cap (k + 1) (.int .u64 zc) ((wr.setCell ⟨g, k, none⟩ (.int .u64 z')).setCell ⟨g, k, none⟩ (.int .u64 z)) := by
  subst hz hzc hz'
  have hB : 0 < B32 := by unfold B32; omega
  refine ⟨(2 * x + c) / B32, R ++ [(2 * x + c) % B32], ?_, rfl, by simp [hR], small_snoc hs (Nat.mod_lt _ hB), ?_, ?_, grownBy_set (grownBy_set hgr _ _) _ _⟩
  · have : (2 * x + c) / B32 < 2 := (Nat.div_lt_iff_lt_mul hB).2 (by omega)
    omega
  · have h := double_step R (digs n) k c b0 hR hI
    rw [hx] at h; exact h
  · rw [← lessRow_set R (digs n) k _ hR hlt]
    have h := (OwnN.stored (OwnN.stored hown k (2 * x + c)).1 k ((2 * x + c) % B32)).1
    rw [List.set_set] at h
    exact h

set_option maxHeartbeats 400000 in
theorem double_any (B : Nat) (v : Value) (n b0 : Nat) (w : World) (hv : OwnU w B v (digs n)) (hb0 : b0 ≤ 1) (hln : (digs n).length ≤ 1048576) (hB : B ≤ w.heap.size) :
    Calls Try.prog 84 #[v, .int .u64 (b0 : Int)] w fun e w' => ∃ v', e = .returned v' ∧ OwnU w' B v' (digs (2 * n + b0)) ∧ w.grownBy w' v.ownBlock := by
  obtain ⟨oa, cap, rfl, hcap, hcm⟩ := hv.shp
  have HO := Lib.hid hv; clear hv
  go_enter Try.func84, Try.ntmps84
  go_wp2_with fail
  by_cases hn0 : (digs n).length = 0
  · have hn : n = 0 := (digs_eq_nil n).1 (List.eq_nil_of_length_eq_zero hn0)
    subst hn
    clear hn0
    have hn0 : (digs 0).length = 0 := rfl
    refine wp_loop_rounds 1 ?_
    rw [rounds_succ]
    by_cases hb : 0 < b0
    · obtain rfl : b0 = 1 := by omega
      go_wp2_with (at_builtin; refine append1 w rfl _ _ 69 rfl B 75 .u64 8 info_u64 Try.underlying69 (.slice oa 0 cap) [] HO.out rfl _ _ 1 rfl rfl (by simp) (by omega) hB ?_)
      intro v' w1 hown' hgrow
      have hbl := grownBy_trans (World.grownBy_alloc w _ _) hgrow
      clear hgrow
      go_wp2_with fail
      go_ret
      exact ⟨v', rfl, hown', by cases oa <;> exact hbl⟩
    · obtain rfl : b0 = 0 := by omega
      go_wp2_with fail
      go_ret
      exact ⟨.slice oa 0 cap, rfl, HO.out, World.grownBy.refl _ _⟩
  obtain ⟨g, rfl, hBg, hgw⟩ := OwnN.at HO.out (by omega)
  go_loopw [1, 8] (fun c i wr => ∃ k : Nat, k ≤ (digs n).length ∧ i = .int .i64 k ∧ dblRel w B n b0 g cap k c wr) (fun _ i _ => (digs n).length - (intOf i).toNat)
  case atStart => exact ⟨0, Nat.zero_le _, rfl, b0, [], by omega, rfl, rfl, (fun x hx => by cases hx), by simp [dv], HO.out, World.grownBy.refl _ _⟩
  case round =>
    obtain ⟨k, hk, rfl, c, R, hc, rfl, hR, hsR, hinv, hown, hgr⟩ := hrel
    have HR := Lib.hid hR; clear hR
    have HI := Lib.hid hinv; clear hinv
    by_cases hlt : k < (digs n).length
    · have hx := lessRow_get R (digs n) k HR.out hlt
      have hcx := OwnN.cell hown k (by rw [lessRow_length R _ (by rw [HR.out]; omega)]; exact hlt)
      rw [hx] at hcx
      have hfx := OwnN.frozen hown k
      clear hx
      have hxs := small_digs n (digs n)[k] (List.getElem_mem _)
      have hgx : (digs n).getD k 0 = (digs n)[k] := by simp [List.getD, hlt]
      generalize hxe : (digs n)[k] = x at *
      clear hxe
      have HGX := Lib.hid hgx; clear hgx
      have hx2 : x < 4294967296 := by unfold B32 at hxs; exact hxs
      go_wp2_with fail
      go_roundw
      case rel =>
        have e1 : bits BinOp.or IntKind.u64 ((x : Int) * 2) (c : Int) = ((2 * x + c : Nat) : Int) := by
          rw [← or_low x c hc, ← orU (2 * x) c (by omega) (by omega)]
          congr 1; omega
        refine ⟨k + 1, by omega, by go_num, dbl_rel HR.out hsR hlt hc hxs HI.out hown hgr HGX.out e1 ?_ ?_⟩
        · rw [e1, mask32 _ (by omega)]; rfl
        · rw [e1]; unfold B32; omega
      case measure => simp [intOf]; omega
    · obtain rfl : k = (digs n).length := by omega
      have hI2 := HI.out
      rw [List.take_length, dv_digs] at hI2
      have he := (double_end R n c b0 hsR HR.out hb0 hI2).1
      clear hI2
      have HE := Lib.hid he; clear he
      have e1 : lessRow R (digs n) = R := by rw [lessRow, HR.out, List.drop_length, List.append_nil]
      rw [e1] at hown
      clear e1
      by_cases hb : 0 < c
      · obtain rfl : c = 1 := by omega
        go_wp2_with (at_builtin; refine append1 wr rfl _ _ 69 rfl B 75 .u64 8 info_u64 Try.underlying69 (.slice (some ⟨g, 0, none⟩) (digs n).length cap) R hown rfl _ _ 1 rfl rfl (by rw [HR.out]; omega) (by omega) (Nat.le_trans hB hgr.size) ?_)
        intro v' w1 hown' hgrow
        have hbl := grownBy_trans (grownBy_alloc hgr _) hgrow
        clear hgrow
        go_wp2_with fail
        go_ret
        exact ⟨v', rfl, by rw [← HE.out, if_pos (by omega)]; exact hown', hbl⟩
      · obtain rfl : c = 0 := by omega
        go_wp2_with fail
        go_ret
        refine ⟨_, rfl, by rw [← HE.out, if_neg (by omega)]; exact hown, hgr⟩

end Go.Proofs.Ytieapjdabffjcaa
