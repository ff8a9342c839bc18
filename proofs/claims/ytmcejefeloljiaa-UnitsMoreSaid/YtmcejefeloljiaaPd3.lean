/-
  The walks of package naturals: double.
-/
import Derived.Test.YtmcejefeloljiaaPd2
import Derived.RangeFuncNested
import Derived.RangeFuncBound
import Derived.RangeFuncCalls
import Derived.RangeFuncLeaves
import Derived.RangeFuncWrites
import Derived.Shelf.Abstract
import Derived.Shelf.RegionOpen
import Derived.OwnWalkIn
import Derived.TacticsInMore
import Derived.LoopNIn
import Derived.LoopIn
import Derived.Test.YtmcejefeloljiaaRows
import Derived.WalkKit
import Derived.StillTailTactics
import Derived.OrdersIn
import Derived.Deep.LoopGhost
namespace Go.Proofs.Ytmcejefeloljiaa
set_option linter.unusedVariables false
set_option linter.unusedSimpArgs false
open Go.RowKit Nm

/-- the relation of the loop of 'double' -/
def dblRel (w : World) (B n b0 g cap : Nat) (k : Nat) (c : Value) (wr : World) : Prop :=
  ∃ (c' : Nat) (R : List Nat), c' ≤ 1 ∧ c = .int .u64 (c' : Int) ∧ R.length = k ∧ small R ∧ dv R + c' * B32 ^ k = 2 * dv ((digs n).take k) + b0 ∧
      OwnU wr B (.slice (some ⟨g, 0, none⟩) (digs n).length cap) (lessRow R (digs n)) ∧ w.grownBy wr (some g)
theorem dbl_rel {w wr : World} {B n b0 g cap k c x : Nat} {R : List Nat} {z zc z' : Int} (hR : R.length = k) (hs : small R) (hlt : k < (digs n).length) (hc : c ≤ 1) (hxs : x < B32)
    (hI : dv R + c * B32 ^ k = 2 * dv ((digs n).take k) + b0) (hown : OwnU wr B (.slice (some ⟨g, 0, none⟩) (digs n).length cap) (lessRow R (digs n))) (hgr : w.grownBy wr (some g))
    (hx : (digs n).getD k 0 = x) (hz' : z' = ((2 * x + c : Nat) : Int)) (hz : z = (((2 * x + c) % B32 : Nat) : Int)) (hzc : zc = (((2 * x + c) / B32 : Nat) : Int)) :
    dblRel w B n b0 g cap (k + 1) (.int .u64 zc) ((wr.setCell ⟨g, k, none⟩ (.int .u64 z')).setCell ⟨g, k, none⟩ (.int .u64 z)) := by
  subst hz hzc hz'
  have hB : 0 < B32 := by unfold B32; omega
  refine ⟨(2 * x + c) / B32, R ++ [(2 * x + c) % B32], ?_, rfl, by simp [hR], small_snoc hs (Nat.mod_lt _ hB), ?_, ?_, grownBy_set (grownBy_set hgr _ _) _ _⟩
  · have : (2 * x + c) / B32 < 2 := (Nat.div_lt_iff_lt_mul hB).2 (by omega)
    omega
  · have h := double_step R (digs n) k c b0 hR hI
    rw [hx] at h; exact h
  · rw [← lessRow_set R (digs n) k _ hR hlt]
    have h := (OwnN.stored (OwnN.stored hown k (2 * x + c)).1 k ((2 * x + c) % B32)).1
    rw [List.set_set] at h
    exact h

set_option maxHeartbeats 400000 in
theorem double_any (B : Nat) (v : Value) (n b0 : Nat) (w : World) (hv : OwnU w B v (digs n)) (hb0 : b0 ≤ 1) (hln : (digs n).length ≤ 1048576) (hB : B ≤ w.heap.size) :
    Calls Try.prog 150 #[v, .int .u64 (b0 : Int)] w fun e w' => ∃ v', e = .returned v' ∧ OwnU w' B v' (digs (2 * n + b0)) ∧ w.grownBy w' v.ownBlock := by
  obtain ⟨oa, cap, rfl, hcap, hcm⟩ := hv.shp
  have HO := Lib.hid hv; clear hv
  go_enter Try.func150, Try.ntmps150
  go_wp2_with fail
  by_cases hn0 : (digs n).length = 0
  · have hn : n = 0 := (digs_eq_nil n).1 (List.eq_nil_of_length_eq_zero hn0)
    subst hn
    clear hn0
    have hn0 : (digs 0).length = 0 := rfl
    refine wp_loop_rounds 1 ?_
    rw [rounds_succ]
    by_cases hb : 0 < b0
    · obtain rfl : b0 = 1 := by omega
      go_wp2_with (at_builtin; refine append1 w rfl _ _ 153 rfl B 159 .u64 8 info_u64 Try.underlying153 (.slice oa 0 cap) [] HO.out rfl _ _ 1 rfl rfl (by simp) (by omega) hB ?_)
      intro v' w1 hown' hgrow
      have hbl := grownBy_trans (World.grownBy_alloc w _ _) hgrow
      clear hgrow
      go_wp2_with fail
      go_ret
      exact ⟨v', rfl, hown', by cases oa <;> exact hbl⟩
    · obtain rfl : b0 = 0 := by omega
      go_wp2_with fail
      go_ret
      exact ⟨.slice oa 0 cap, rfl, HO.out, World.grownBy.refl _ _⟩
  obtain ⟨g, rfl, hBg, hgw⟩ := OwnN.at HO.out (by omega)
  go_loopw [1, 8] (fun c i wr => ∃ k : Nat, k ≤ (digs n).length ∧ i = .int .i64 k ∧ dblRel w B n b0 g cap k c wr) (fun _ i _ => (digs n).length - (intOf i).toNat)
  case atStart => exact ⟨0, Nat.zero_le _, rfl, b0, [], by omega, rfl, rfl, (fun x hx => by cases hx), by simp [dv], HO.out, World.grownBy.refl _ _⟩
  case round =>
    obtain ⟨k, hk, rfl, c, R, hc, rfl, hR, hsR, hinv, hown, hgr⟩ := hrel
    have HR := Lib.hid hR; clear hR
    have HI := Lib.hid hinv; clear hinv
    by_cases hlt : k < (digs n).length
    · have hx := lessRow_get R (digs n) k HR.out hlt
      have hcx := OwnN.cell hown k (by rw [lessRow_length R _ (by rw [HR.out]; omega)]; exact hlt)
      rw [hx] at hcx
      have hfx := OwnN.frozen hown k
      clear hx
      have hxs := small_digs n (digs n)[k] (List.getElem_mem _)
      have hgx : (digs n).getD k 0 = (digs n)[k] := by simp [List.getD, hlt]
      generalize hxe : (digs n)[k] = x at *
      clear hxe
      have HGX := Lib.hid hgx; clear hgx
      have hx2 : x < 4294967296 := by unfold B32 at hxs; exact hxs
      go_wp2_with fail
      go_roundw
      case rel =>
        have e1 : bits BinOp.or IntKind.u64 ((x : Int) * 2) (c : Int) = ((2 * x + c : Nat) : Int) := by
          rw [← or_low x c hc, ← orU (2 * x) c (by omega) (by omega)]
          congr 1; omega
        refine ⟨k + 1, by omega, by go_num, dbl_rel HR.out hsR hlt hc hxs HI.out hown hgr HGX.out e1 ?_ ?_⟩
        · rw [e1, mask32 _ (by omega)]; rfl
        · rw [e1]; unfold B32; omega
      case measure => simp [intOf]; omega
    · obtain rfl : k = (digs n).length := by omega
      have hI2 := HI.out
      rw [List.take_length, dv_digs] at hI2
      have he := (double_end R n c b0 hsR HR.out hb0 hI2).1
      clear hI2
      have HE := Lib.hid he; clear he
      have e1 : lessRow R (digs n) = R := by rw [lessRow, HR.out, List.drop_length, List.append_nil]
      rw [e1] at hown
      clear e1
      by_cases hb : 0 < c
      · obtain rfl : c = 1 := by omega
        go_wp2_with (at_builtin; refine append1 wr rfl _ _ 153 rfl B 159 .u64 8 info_u64 Try.underlying153 (.slice (some ⟨g, 0, none⟩) (digs n).length cap) R hown rfl _ _ 1 rfl rfl (by rw [HR.out]; omega) (by omega) (Nat.le_trans hB hgr.size) ?_)
        intro v' w1 hown' hgrow
        have hbl := grownBy_trans (grownBy_alloc hgr _) hgrow
        clear hgrow
        go_wp2_with fail
        go_ret
        exact ⟨v', rfl, by rw [← HE.out, if_pos (by omega)]; exact hown', hbl⟩
      · obtain rfl : c = 0 := by omega
        go_wp2_with fail
        go_ret
        refine ⟨_, rfl, by rw [← HE.out, if_neg (by omega)]; exact hown, hgr⟩

end Go.Proofs.Ytmcejefeloljiaa

/-
  The walks of package naturals: comparing.
-/
namespace Go.Proofs.Ytmcejefeloljiaa
set_option linter.unusedVariables false
set_option linter.unusedSimpArgs false
open Go.RowKit Nm

set_option maxHeartbeats 400000 in
theorem compare_any (B B' : Nat) (v u : Value) (n m : Nat) (w : World) (hv : OwnU w B v (digs n)) (hu : OwnU w B' u (digs m)) (hln : (digs n).length ≤ 1048576) (hlm : (digs m).length ≤ 1048576) :
    Calls Try.prog 151 #[v, u] w fun e w' => e = .returned (.int .i64 (cmpN n m)) ∧ ∃ k, w' = w.drewN k := by
  obtain ⟨oa, cap, rfl, hnone, hsome, hcap, hcm⟩ := hv.shape
  obtain ⟨ob, cap', rfl, hnone', hsome', hcap', hcm'⟩ := hu.shape
  unfold maxLen at hcm hcm'
  have HN := Lib.hid hnone; clear hnone
  have HS := Lib.hid hsome; clear hsome
  have HO := Lib.hid hv; clear hv
  have HN' := Lib.hid hnone'; clear hnone'
  have HS' := Lib.hid hsome'; clear hsome'
  have HO' := Lib.hid hu; clear hu
  by_cases hlen : (digs n).length = (digs m).length
  · have hlen1 : (((digs n).length : Int) - ((digs m).length : Int) == 0) = true := by
      rw [beq_iff_eq]; omega
    have hl1 : (digs n).length ≤ (digs m).length := by omega
    have hl2 : (digs m).length ≤ (digs n).length := by omega
    have HL := Lib.hid hlen; clear hlen
    go_enter Try.func151, Try.ntmps151
    go_wp2_with fail
    go_step3
    go_wp2_with fail
    go_step3
    go_wp2_with fail
    go_loopw [5, 6] (fun c i wr => ∃ j : Nat, j ≤ (digs n).length ∧ c = .int .i64 (((digs n).length : Int) - (digs m).length) ∧ i = .int .i64 ((j : Int) - 1) ∧ (digs n).drop j = (digs m).drop j ∧ ∃ nq, wr = w.drewN nq) (fun _ i _ => (intOf i + 1).toNat)
    case atStart => exact ⟨(digs n).length, Nat.le_refl _, rfl, by rw [HL.out], by rw [List.drop_length, HL.out, List.drop_length], 0, rfl⟩
    case round =>
      obtain ⟨j, hj, rfl, rfl, hd, nq, rfl⟩ := hrel
      have HD := Lib.hid hd; clear hd
      by_cases h0 : 0 < j
      · obtain ⟨a, rfl⟩ : ∃ a, oa = some a := by
          cases oa with
          | some a => exact ⟨a, rfl⟩
          | none => have h := HN.out rfl; rw [h] at hj; simp at hj; omega
        obtain ⟨a', rfl⟩ : ∃ a, ob = some a := by
          cases ob with
          | some a => exact ⟨a, rfl⟩
          | none => have h := HN'.out rfl; rw [HL.out, h] at hj; simp at hj; omega
        obtain ⟨ha, hB, hlt⟩ := HS.out a rfl
        obtain ⟨g, o, sb⟩ := a
        cases ha
        obtain ⟨ha, hB', hlt'⟩ := HS'.out a' rfl
        obtain ⟨g', o, sb⟩ := a'
        cases ha
        have hc := OwnN.cell HO.out (j - 1) (by omega)
        generalize hx : (digs n)[j - 1] = x at hc
        have Hx := Lib.hid hx; clear hx
        have hc' := OwnN.cell HO'.out (j - 1) (by omega)
        generalize hy : (digs m)[j - 1] = y at hc'
        have Hy := Lib.hid hy; clear hy
        by_cases hxy : x < y
        · go_wp2_with fail
          go_quiet (fail)
          go_wp2_with fail
          simp only [Exit.noGoto, Exit.then]
          go_wp2_with fail
          go_ret
          refine ⟨ret_int (cmpN_lt ?_).symm, _, rfl⟩
          have h := dv_lt_of_digit (digs n) (digs m) (small_digs n) (j - 1) (by omega) (by omega) (by rw [show j - 1 + 1 = j by omega]; exact HD.out) (by rw [Hx.out, Hy.out]; exact hxy)
          rw [dv_digs, dv_digs] at h; exact h
        · by_cases hyx : y < x
          · go_wp2_with fail
            go_quiet (fail)
            go_wp2_with fail
            go_quiet (fail)
            go_wp2_with fail
            simp only [Exit.noGoto, Exit.then]
            go_wp2_with fail
            go_ret
            refine ⟨ret_int (cmpN_gt ?_).symm, _, rfl⟩
            have h := dv_lt_of_digit (digs m) (digs n) (small_digs m) (j - 1) (by omega) (by omega) (by rw [show j - 1 + 1 = j by omega]; exact HD.out.symm) (by rw [Hx.out, Hy.out]; exact hyx)
            rw [dv_digs, dv_digs] at h; exact h
          · go_wp2_with fail
            go_quiet (fail)
            go_wp2_with fail
            go_quiet (fail)
            go_wp2_with fail
            go_roundw
            case rel =>
              refine ⟨j - 1, by omega, rfl, by rw [show ((j - 1 : Nat) : Int) = (j : Int) - 1 by omega], ?_, _, rfl⟩
              rw [List.drop_eq_getElem_cons (show j - 1 < (digs n).length by omega), List.drop_eq_getElem_cons (show j - 1 < (digs m).length by omega), Hx.out, Hy.out, show j - 1 + 1 = j by omega, HD.out]
              congr 1; omega
            case measure => simp [intOf]; omega
      · obtain rfl : j = 0 := by omega
        go_wp2_with fail
        simp only [Exit.noGoto, Exit.then]
        go_wp2_with fail
        go_ret
        refine ⟨ret_int ?_, _, rfl⟩
        have h := HD.out
        simp only [List.drop_zero] at h
        rw [cmpN_eq (by rw [← dv_digs n, h, dv_digs])]
        omega
  · rcases Nat.lt_or_gt_of_ne hlen with hlt | hgt
    · have hlen1 : (((digs n).length : Int) - ((digs m).length : Int) == 0) = false := by
        rw [beq_eq_false_iff_ne]; omega
      have h1 : (if ((digs n).length : Int) - ((digs m).length : Int) < 1 then ((digs n).length : Int) - ((digs m).length : Int) else 1) ≤ -1 := by
        rw [if_pos (by omega)]; omega
      go_enter Try.func151, Try.ntmps151
      go_wp2_with fail
      go_ret
      exact ⟨ret_int (cmpN_lt (digs_lt_of_length hlt)).symm, 0, rfl⟩
    · have hlen1 : (((digs n).length : Int) - ((digs m).length : Int) == 0) = false := by
        rw [beq_eq_false_iff_ne]; omega
      go_enter Try.func151, Try.ntmps151
      go_wp2_with fail
      go_ret
      exact ⟨ret_int (cmpN_gt (digs_lt_of_length hgt)).symm, 0, rfl⟩

end Go.Proofs.Ytmcejefeloljiaa

/-
  The walks of package naturals: bits, divide.
-/
namespace Go.Proofs.Ytmcejefeloljiaa
set_option linter.unusedVariables false
set_option linter.unusedSimpArgs false
open Go.RowKit Nm
attribute [local go_sem] Oper.semAt_some

/-- the two blocks that the iterator reads lie as they lay -/
def keep2 (b c : Nat) (W W' : World) : Prop := W'.heap[b]? = W.heap[b]? ∧ W'.heap[c]? = W.heap[c]?
theorem keep2_t {b c : Nat} {A B C : World} (h : keep2 b c A B) (k : keep2 b c B C) : keep2 b c A C := ⟨k.1.trans h.1, k.2.trans h.2⟩

set_option maxRecDepth 100000 in
set_option maxHeartbeats 1000000 in
theorem bits1_in (n l Bl B V cap ga : Nat) (hl : 1 ≤ n) (hln : (digs V).length ≤ 1048576) (J Jx : List (BitAt (32 * (digs V).length)) → World → Prop) (W : World) (oa : Option Addr)
    (hv : OwnU W B (.slice oa (digs V).length cap) (digs V)) (hga : ∀ g, oa = some ⟨g, 0, none⟩ → g = ga)
    (hY : ∀ pre x W1, J pre W1 → pre.length < 32 * (digs V).length → YieldAt Fence.wide (n - 1) Try.prog l #[.int .i64 ((x.1.1 : Nat) : Int), .int .u64 ((x.1.2 : Nat) : Int)] W1 fun e W' =>
      (e = .returned (.bool true) ∧ J (pre ++ [x]) W' ∧ keep2 Bl ga W1 W') ∨ (e = .returned (.bool false) ∧ Jx (pre ++ [x]) W'))
    (hBl : W.cell? ⟨Bl, 0, none⟩ = some (.slice oa (digs V).length cap)) (h0 : J [] W) :
    CallsIn Fence.wide n Try.prog 164 #[.func (.yield l) #[] #[], .pointer (some ⟨Bl, 0, none⟩)] W fun e W' => (∃ v, e = .returned v) ∧
      ((∃ ys, ys = bitsUpto V (32 * (digs V).length) (32 * (digs V).length) ∧ J ys W') ∨ (∃ pre, (∃ k, pre = bitsUpto V (32 * (digs V).length) k) ∧ Jx pre W')) := by
  have HO := Lib.hid hv; clear hv
  have HG := Lib.hid hga; clear hga
  have HB := Lib.hid hBl
  refine callsIn_of_wp Try.func164 rfl trivial ?_ rfl
  simp only [Try.ntmps164, List.size_toArray, List.length_cons, List.length_nil, Nat.reduceAdd, Nat.reduceSub, Array.replicate_succ, Array.replicate_zero, List.push_toArray, List.append_toArray, List.nil_append, List.cons_append]
  gi_wp2
  clear hBl
  gi_loopw [3] (fun i wr => ∃ j : Nat, j ≤ 32 * (digs V).length ∧ i = .int .i64 (32 * (digs V).length - 1 - (j : Int)) ∧ J (bitsUpto V (32 * (digs V).length) j) wr ∧ keep2 Bl ga W wr)
    (fun i _ => (intOf i + 1).toNat)
  case atStart => exact ⟨0, Nat.zero_le _, by simp, h0, rfl, rfl⟩
  case round =>
    obtain ⟨j, hj, rfl, hJs, hkp⟩ := hrel
    by_cases hlt : j < 32 * (digs V).length
    · obtain ⟨g, rfl, _, _⟩ := OwnN.at HO.out (by omega)
      obtain rfl := HG.out g rfl
      have hcx := OwnN.cell HO.out ((32 * (digs V).length - 1 - j) / 32) (by omega)
      rw [digs_get] at hcx
      have hcx2 : wr.cell? ⟨g, (32 * (digs V).length - 1 - j) / 32, none⟩ = _ := (World.cell?_of_block (a := ⟨g, (32 * (digs V).length - 1 - j) / 32, none⟩) hkp.2).trans hcx
      have hcb : wr.cell? ⟨Bl, 0, none⟩ = _ := (World.cell?_of_block (a := ⟨Bl, 0, none⟩) hkp.1).trans HB.out
      have hbit := bit_of V (32 * (digs V).length - 1 - j)
      generalize hxe : V / B32 ^ ((32 * (digs V).length - 1 - j) / 32) % B32 = x at *
      have hx2 : x < 4294967296 := by rw [← hxe]; exact Nat.mod_lt _ (by unfold B32; omega)
      have HBit := Lib.hid hbit
      clear hcx hbit hxe
      obtain ⟨fn, tmps, assign, body, hy, hR⟩ := hY _ (bitAt V (32 * (digs V).length) j) wr hJs (by rw [bitsUpto_length]; exact hlt)
      dsimp only [bitAt] at hy
      have e1 : ((32 * (digs V).length - 1 - j : Nat) : Int) = 32 * ((digs V).length : Int) - 1 - (j : Int) := by omega
      rw [← HBit.out, e1, ← and_bit x _ (by omega)] at hy
      clear e1
      gi_wp2
      refine hR.mono ?_
      rintro e W3 (⟨rfl, hJ3, hk3⟩ | ⟨rfl, hJx3⟩)
      · gi_wp2
        go_roundw
        case rel => exact ⟨j + 1, by omega, by rw [show ((j + 1 : Nat) : Int) = (j : Int) + 1 by omega]; congr 1; omega, by rw [bitsUpto_succ]; exact hJ3, keep2_t hkp hk3⟩
        case measure => simp [intOf]; omega
      · gi_wp2
        refine bodyPost_ret (results_none rfl _ _ _) rfl ?_
        exact ⟨⟨_, rfl⟩, .inr ⟨_, ⟨j + 1, rfl⟩, by rw [bitsUpto_succ]; exact hJx3⟩⟩
    · obtain rfl : j = 32 * (digs V).length := by omega
      gi_wp2
      go_end0
      exact ⟨⟨_, rfl⟩, .inl ⟨_, rfl, hJs⟩⟩

theorem bits_any (oa : Option Addr) (len cap : Nat) (w : World) :
    Calls Try.prog 149 #[.slice oa len cap] w fun e w' => e = .returned (.func (.func 164) #[] #[.pointer (some ⟨w.heap.size, 0, none⟩)]) ∧ w' = w.alloc (.cells #[.slice oa len cap] 153) := by
  have hmf : ∀ (fn : Fn) (first cap : Array Value) (w : World), (Instr.makeFunc fn first cap).run Try.prog w = .ok (.func fn first cap) w := fun _ _ _ _ => rfl
  go_enter Try.func149, Try.ntmps149
  go_wp2
  go_ret
  exact ⟨rfl, rfl⟩

theorem bits_stops (n Bl B V cap ga : Nat) (hl : 1 ≤ n) (hln : (digs V).length ≤ 1048576) (w : World) (oa : Option Addr)
    (hv : OwnU w B (.slice oa (digs V).length cap) (digs V)) (hga : ∀ g, oa = some ⟨g, 0, none⟩ → g = ga) (hBl : w.cell? ⟨Bl, 0, none⟩ = some (.slice oa (digs V).length cap)) (hlt : Bl < w.heap.size) :
    SeqStopsK Fence.wide n Try.prog 164 #[.pointer (some ⟨Bl, 0, none⟩)] (fun x : BitAt (32 * (digs V).length) => #[.int .i64 ((x.1.1 : Nat) : Int), .int .u64 ((x.1.2 : Nat) : Int)]) (keep2 Bl ga)
      (fun ys => ys = bitsUpto V (32 * (digs V).length) (32 * (digs V).length)) (fun pre => ∃ k, pre = bitsUpto V (32 * (digs V).length) k) (32 * (digs V).length) w := fun l J Jx W hW _ _ hY h0 =>
  bits1_in n l Bl B V cap ga hl hln J Jx W oa (hv.below hW) hga hY ((hW.cell (p := ⟨Bl, 0, none⟩) hlt).trans hBl) h0

end Go.Proofs.Ytmcejefeloljiaa

/-
  A region that draws its order, in a round of a range over a function: all but the last operations only read.
-/
namespace Go.Proofs.Ytmcejefeloljiaa
set_option linter.unusedVariables false
set_option linter.unusedSimpArgs false
open Go.RowKit

section
variable {P : Program} {l n : Nat} {Q : Exit → Act → World → Prop} {md : Region.Mode}

theorem rows_round {row : String} {args : Array Value} {w : World} {R : Value → World → Prop} (h : Rows P row args w R) : RowsIn (Fence.wide.inRound l) n P row args w R := fun c cs _ => by
  obtain ⟨v, w', r, s⟩ := h c cs
  exact ⟨v, w', r, (stepsIn_wide (P := P)).2 s⟩

theorem oper_round {o : Oper} {a : Act} {w : World} {K : Act → World → Prop} (hd : ∀ c, o.op ≠ .defer c) (h : o.wp P a w K Q) : o.wpIn (Fence.wide.inRound l) n P a w K Q := by
  refine ⟨fun _ _ => trivial, ?_⟩
  show o.uponIn (Fence.wide.inRound l) n P a K Q ((o.semAt (some l) a.eval).run P w)
  rw [Oper.semAt_some l a.eval o hd]
  unfold Oper.wp at h
  generalize (execOp a.eval o).run P w = r at *
  cases r with
  | ok x w' =>
    cases x <;> simp only [Oper.upon, Oper.uponIn] at h ⊢ <;>
      first
        | exact h
        | exact ⟨(fun hx => by cases hx), CallsIn.inRound l (callsIn_wide.2 h)⟩
        | exact ⟨(fun hx => by cases hx), rows_round h⟩
  | halt x w' => cases x <;> simp only [Oper.upon, Oper.uponIn] at h ⊢ <;> exact h

theorem wpOp_round {ops : Array Oper} {i : Nat} {a : Act} {w : World} {K : Act → World → Prop} (hout : ¬ LetsOut Q) (hd : ∀ (i : Nat) (o : Oper), ops[i]? = some o → ∀ c, o.op ≠ .defer c) (h : wpOp P ops Q i K a w) : wpOpIn (Fence.wide.inRound l) n P ops Q i K a w := by
  unfold wpOp at h
  unfold wpOpIn
  cases ho : ops[i]? with
  | none => simpa [ho] using h
  | some o =>
    simp only [ho] at h ⊢
    split
    · rename_i hw
      rw [if_pos hw] at h
      rcases h with h | h
      · exact oper_round (hd i o ho) h
      · exact absurd h.2 hout
    · rename_i hw
      rw [if_neg hw] at h
      exact ⟨fun _ _ => trivial, h⟩

theorem wpAny_round {ops : Array Oper} (hout : ¬ LetsOut Q) (hd : ∀ (i : Nat) (o : Oper), ops[i]? = some o → ∀ c, o.op ≠ .defer c) :
    ∀ (fuel : Nat) (listed : Array Bool) (a : Act) (w : World), wpAny P md ops Q fuel listed a w → wpAnyIn (Fence.wide.inRound l) n P md ops Q fuel listed a w
  | 0, _, _, _, h => h
  | fuel + 1, _, _, _, h => ⟨h.1, fun i hi => wpOpIn_mono (fun a w h' => wpAny_round hout hd fuel _ a w h') (wpOp_round hout hd (h.2 i hi))⟩

def noDefer (o : Oper) : Bool := match o.op with | .defer _ => false | _ => true
theorem noDefer_all {ls : List Oper} (h : ls.all noDefer = true) : ∀ (i : Nat) (o : Oper), ls.toArray[i]? = some o → ∀ c, o.op ≠ .defer c := by
  intro i o ho c hc
  have hm : o ∈ ls := by
    have := List.mem_of_getElem? (l := ls) (by simpa using ho)
    exact this
  have := List.all_eq_true.1 h o hm
  simp [noDefer, hc] at this

theorem wpIn_round_still_tail {id : Nat} {a : Act} {w : World} {ls : List Oper} (k : Nat) (hm : P.follows .mixedOrders = true) (hB : Region.lexTailB .any ls.toArray k = true) (hd : ls.all noDefer = true) (hout : ¬ LetsOut Q)
    (h : wpStill P ls.toArray w.drew (fun a' => wpList P ls.toArray Q (ls.drop k) a' w.drew) (ls.take k) a) : (Code.region id ls.toArray true).wpIn (Fence.wide.inRound l) n P Q a w := by
  simp only [Region.lexTailB, Bool.and_eq_true, decide_eq_true_eq] at hB
  obtain ⟨⟨⟨⟨hsel, hn⟩, hs⟩, hc⟩, hlex⟩ := hB
  have hn' : k < ls.length := by simpa using hn
  have htl : (ls.take k).length = k := by simp; omega
  have hdl : (ls.drop k).length = ls.toArray.size - k := by simp
  have inv0 : HeadInv .any ls.toArray k (Array.replicate ls.toArray.size false) :=
    ⟨by simp, fun j oj _ hl => (by rw [getD_replicate_false] at hl; cases hl), fun t _ ht => getD_in (by simpa using ht) (getD_replicate_false _ _)⟩
  have H := wpAnyL_lex (md := .any) (g := ls.toArray.size - k) hsel hs hc hn (ls.take k) 0 _ a (fun j hj => by
    have hj' : j < k := by rw [htl] at hj; exact hj
    simp [hj']) (by simpa using htl) inv0 (by rw [htl]; exact hlex) h
  refine wpIn_region_any hm (wpAny_round hout (noDefer_all hd) _ _ _ _ ?_)
  have := wpAny_of_head (Q' := Q) (g := ls.toArray.size - k) (fun listed a' hL => by
    have := wpAny_of_seq (md := .any) (Q' := Q) (ls.drop k) k listed a' { w with drawn := w.drawn + 1 } (fun j => by simp [List.getElem?_drop]) (by rw [hdl]; exact hL.1) hL.2
    rwa [hdl] at this) _ _ _ H
  rw [htl, show k + (ls.toArray.size - k) = ls.toArray.size by omega] at this
  exact this
end
end Go.Proofs.Ytmcejefeloljiaa

/-
  The walks of package naturals: divide.
-/
namespace Go.Proofs.Ytmcejefeloljiaa
set_option linter.unusedVariables false
set_option linter.unusedSimpArgs false
open Go.RowKit Nm
attribute [local go_sem] Oper.semAt_some

theorem makeIn {F : Fence} {n : Nat} {P : Program} (w : World) {ops : Array Oper} {rest : List Oper} {o : Oper} {a : Act} {Q : Exit → Act → World → Prop}
    (hg : o.guard = none) (l c : Operand) (t : TypeId) (hop : o.op = Op.makeSlice t l c)
    (base : Nat) (e : TypeId) (k : IntKind) (bytes : Nat) (hinfo : (P.info? e).map (fun i => (i.zero, i.size, i.bytes)) = some (some (.int k 0), 1, bytes)) (h1 : P.underlying t = some (.slice e))
    (kl kc : IntKind) (L C : Int) (m : Nat) (hl : a.eval l = .int kl L) (hc : a.eval c = .int kc C) (hL : L = (m : Int)) (hC : C = (m : Int)) (b2 : bytes * m ≤ 281474976710656) (b3 : m ≤ maxLen) (b4 : base ≤ w.heap.size)
    (hK : ∀ w', OwnN w' base e k (.slice (some ⟨w.heap.size, 0, none⟩) m m) (List.replicate m 0) → w.grownBy w' none → wpListIn F n P ops Q rest (a.put o.dst (.slice (some ⟨w.heap.size, 0, none⟩) m m)) w') :
    wpListIn F n P ops Q (o :: rest) a w := by
  obtain ⟨i, hi, h0, h2, h3⟩ := info_parts hinfo
  refine wpListIn_plain hg fun K hK' => ?_
  obtain ⟨w', hrun, r1, r2⟩ := run_make_full (P := P) w base t e i (.int k 0) 1 h1 hi h0 h2 kl kc m (by rw [h3]; exact b2) b3 b4
  subst hL
  subst hC
  unfold Oper.wpIn
  refine ⟨?_, ?_⟩
  · simp [Oper.about, hop]
  · rw [Oper.semAt_plain F _ _ (by rw [hop]; intro c hc'; cases hc')]
    simp [execOp, hop, hl, hc, hrun, Result.andThen]
    exact hK' _ _ (hK w' (OwnN.made (by rw [Nat.mul_one] at r1; exact r1)) r2)

/-- a block of one cell -/
def Box (W : World) (b : Nat) (t : TypeId) (v : Value) : Prop := W.heap[b]? = some (.cells #[v] t (0, 0))
theorem Box.cell {W : World} {b : Nat} {t : TypeId} {v : Value} (h : Box W b t v) : W.cell? ⟨b, 0, none⟩ = some v := cell_of_one h
theorem Box.free {W : World} {b : Nat} {t : TypeId} {v : Value} (h : Box W b t v) : W.frozen? ⟨b, 0, none⟩ = false := free_of_one h
theorem Box.lt {W : World} {b : Nat} {t : TypeId} {v : Value} (h : Box W b t v) : b < W.heap.size := lt_of_block h
theorem Box.set {W : World} {b : Nat} {t : TypeId} {v : Value} (h : Box W b t v) (u : Value) : Box (W.setCell ⟨b, 0, none⟩ u) b t u := one_setCell h
theorem Box.other {W : World} {b : Nat} {t : TypeId} {v : Value} (h : Box W b t v) (a : Addr) (ha : b ≠ a.block) (u : Value) : Box (W.setCell a u) b t v := (Below.heap_setCell W a u b ha).trans h
theorem Box.grown {W W' : World} {b : Nat} {t : TypeId} {v : Value} {row : Option Nat} (h : Box W b t v) (hg : W.grownBy W' row) (hr : some b ≠ row) : Box W' b t v := (hg.block b h.lt hr).trans h
theorem Box.alloc {W : World} {b : Nat} {t : TypeId} {v : Value} (h : Box W b t v) (o : Obj) : Box (W.alloc o) b t v := (Below.heap_alloc W o b h.lt).trans h
theorem Box.drewN {W : World} {b : Nat} {t : TypeId} {v : Value} (h : Box W b t v) (k : Nat) : Box (W.drewN k) b t v := h
theorem Box.new (W : World) (t : TypeId) (v : Value) : Box (W.alloc (.cells #[v] t)) W.heap.size t v := World.alloc_heap_new W _
theorem Box.below {W W' : World} {b : Nat} {t : TypeId} {v : Value} {B : Nat} (h : Box W b t v) (hb : Below B W W') (hB : b < B) : Box W' b t v := (hb.block b hB).trans h

/-- what is owned abides the turn of a block that holds no cells -/
theorem OwnN.cells {W W' : World} {B : Nat} {E : TypeId} {k : IntKind} {v : Value} {xs : List Nat} {row : Option Nat} (h : OwnN W B E k v xs) (hg : W.grownBy W' row) (hr : ∀ r, row = some r → ∃ o : Obj, W.heap[r]? = some o ∧ o.isCells = false) : OwnN W' B E k v xs := by
  refine h.kept hg ?_
  by_cases hne : v.ownBlock = row
  · cases hv : v.ownBlock with
    | none => exact Or.inl rfl
    | some g =>
      exfalso
      obtain ⟨o, ho, hc⟩ := hr g (by rw [← hne, hv])
      rcases h.2 with ⟨rfl, _⟩ | ⟨g', cap, cur, rfl, _, hg', _⟩
      · simp [Value.ownBlock] at hv
      · simp [Value.ownBlock] at hv
        subst hv
        rw [hg'] at ho; cases ho; simp [Obj.isCells] at hc
  · exact Or.inr hne
theorem Box.cells {W W' : World} {b : Nat} {t : TypeId} {v : Value} {row : Option Nat} (h : Box W b t v) (hg : W.grownBy W' row) (hr : ∀ r, row = some r → ∃ o : Obj, W.heap[r]? = some o ∧ o.isCells = false) : Box W' b t v := by
  refine h.grown hg fun e => ?_
  obtain ⟨o, ho, hc⟩ := hr b e.symm
  unfold Box at h
  rw [h] at ho; cases ho; simp [Obj.isCells] at hc

/-- between two rounds of 'divide' -/
def divI (w : World) (S : Nat) (n m cap' : Nat) (ob : Option Addr) (pre : List (BitAt (32 * (digs n).length))) (W : World) : Prop :=
  (∃ rv, Box W w.heap.size 153 (.slice ob (digs m).length cap') ∧ Box W (w.heap.size + 1) 153 (.slice (some ⟨w.heap.size + 3, 0, none⟩) (digs n).length (digs n).length) ∧ Box W (w.heap.size + 2) 153 rv ∧
    OwnU W (w.heap.size + 3) (.slice (some ⟨w.heap.size + 3, 0, none⟩) (digs n).length (digs n).length) (dgl (digs n).length (divSt m pre).1) ∧ OwnU W S rv (digs (divSt m pre).2) ∧ S ≤ W.heap.size) ∧ Below w.heap.size w W

/-- what a round of 'divide' keeps -/
structure divK (H S : Nat) (W W' : World) : Prop where
  size : W.heap.size ≤ W'.heap.size
  same : ∀ (k : Nat) (o : Obj), W.heap[k]? = some o → o.isCells = false → W'.heap[k]? = some o
  low : ∀ k, k < S → k ≠ H + 2 → k ≠ H + 3 → W'.heap[k]? = W.heap[k]?
theorem divK.trans {H S : Nat} {A B C : World} (h : divK H S A B) (k : divK H S B C) : divK H S A C :=
  ⟨Nat.le_trans h.size k.size, fun i o hi ho => k.same i o (h.same i o hi ho) ho, fun i h1 h2 h3 => (k.low i h1 h2 h3).trans (h.low i h1 h2 h3)⟩
theorem divK.grown {H S : Nat} {W W' : World} {E : TypeId} {k : IntKind} {v : Value} {xs : List Nat} (hS : S ≤ W.heap.size) (hg : W.grownBy W' v.ownBlock) (h : OwnN W S E k v xs) : divK H S W W' := by
  have hc : ∀ (j : Nat) (o : Obj), v.ownBlock = some j → W.heap[j]? = some o → o.isCells = true := fun j o e ho => by
    rcases h.2 with ⟨rfl, _⟩ | ⟨g', cap, cur, rfl, _, hg', _⟩
    · simp [Value.ownBlock] at e
    · simp [Value.ownBlock] at e
      subst e
      rw [hg'] at ho; cases ho; rfl
  have hk := KeepsOthers.of_grownBy hg hc
  exact ⟨hk.size, hk.same, fun i h1 _ _ => hg.block i (by omega) (fun e => by have := (h.lt i e.symm).1; omega)⟩
theorem divK.set {H S : Nat} (W : World) (b j : Nat) (u : Value) (hb : b = H + 2 ∨ b = H + 3) : divK H S W (W.setCell ⟨b, j, none⟩ u) :=
  have hk := KeepsOthers.setCell W ⟨b, j, none⟩ u
  ⟨hk.size, hk.same, fun i _ h2 h3 => Below.heap_setCell _ _ _ _ (by show i ≠ b; omega)⟩
theorem divK.drewN {H S : Nat} {W W' : World} (h : divK H S W W') (k : Nat) : divK H S W (W'.drewN k) := ⟨h.size, h.same, h.low⟩

set_option maxRecDepth 100000 in
set_option maxHeartbeats 1000000 in
theorem divide_any (B B' : Nat) (v u : Value) (n m : Nat) (w : World) (hv : OwnU w B v (digs n)) (hu : OwnU w B' u (digs m)) (hm : 0 < m) (hln : (digs n).length ≤ 4096) (hlm : (digs m).length ≤ 4096) :
    Calls Try.prog 106 #[v, u] w fun e w' => ∃ v1 v2, e = .returned (.tuple #[v1, v2]) ∧ OwnU w' w.heap.size v1 (digs (n / m)) ∧ OwnU w' w.heap.size v2 (digs (n % m)) ∧ Below w.heap.size w w' := by
  obtain ⟨oa, cap, rfl, hcap, hcm⟩ := hv.shp
  obtain ⟨ob, cap', rfl, hcap', hcm'⟩ := hu.shp
  have HO := Lib.hid hv; clear hv
  have HU := Lib.hid hu; clear hu
  obtain ⟨i0, hi, hz0, hz1, hz2⟩ := info_parts info_u64
  refine (callsIn_wide (n := 3)).1 ?_
  refine callsIn_of_wp_marks Try.func106 rfl trivial ?_ rfl
  simp only [Try.ntmps106, List.size_toArray, List.length_cons, List.length_nil, Nat.reduceAdd, Nat.reduceSub, Array.replicate_succ, Array.replicate_zero, List.push_toArray, List.append_toArray, List.nil_append, List.cons_append]
  gi_wp2_with (gi_at_make; refine makeIn _ rfl _ _ 153 rfl (w.heap.size + 3) 159 .u64 8 info_u64 Try.underlying153 .i64 .i64 _ _ (digs n).length rfl rfl rfl rfl (by omega) (by unfold maxLen; omega) (by simp) ?_)
  intro w1 hown hgrow
  have b0 := (((Box.new w 153 (.slice ob (digs m).length cap')).alloc (.cells #[.slice none 0 0] 153)).alloc (.cells #[.slice none 0 0] 153)).grown hgrow (by simp)
  have b1 := ((Box.new (w.alloc (.cells #[.slice ob (digs m).length cap'] 153)) 153 (.slice none 0 0)).alloc (.cells #[.slice none 0 0] 153)).grown hgrow (by simp)
  have b2 := (Box.new ((w.alloc (.cells #[.slice ob (digs m).length cap'] 153)).alloc (.cells #[.slice none 0 0] 153)) 153 (.slice none 0 0)).grown hgrow (by simp)
  simp only [World.size_alloc] at b1 b2
  have hbw : Below w.heap.size w w1 := ((((Below.refl _ w).alloc (Nat.le_refl _) _).alloc (by simp) _).alloc (by simp; omega) _).grown hgrow (by simp; omega) (by simp)
  have hsz : w.heap.size + 3 < w1.heap.size := by
    have := (hown.lt _ rfl).2
    omega
  have HW := Lib.hid hown
  have B0 := Lib.hid b0
  have B1 := Lib.hid b1
  have B2 := Lib.hid b2
  have BW := Lib.hid hbw
  have c1 := b1.cell
  have f1 := b1.free
  clear hgrow hown b0 b1 b2 hbw
  gi_wp2_with fail
  refine ⟨trivial, (callsIn_wide.2 (bits_any _ _ _ _)).mono ?_⟩
  rintro e w' ⟨rfl, rfl⟩
  clear c1 f1
  have B0' := (B0.out.other ⟨w.heap.size + 1, 0, none⟩ (by simp) (.slice (some ⟨w.heap.size + 1 + 1 + 1, 0, none⟩) (digs n).length (digs n).length)).alloc (.cells #[.slice oa (digs n).length cap] 153)
  have B1' := (B1.out.set (.slice (some ⟨w.heap.size + 1 + 1 + 1, 0, none⟩) (digs n).length (digs n).length)).alloc (.cells #[.slice oa (digs n).length cap] 153)
  have B2' := (B2.out.other ⟨w.heap.size + 1, 0, none⟩ (by simp) (.slice (some ⟨w.heap.size + 1 + 1 + 1, 0, none⟩) (digs n).length (digs n).length)).alloc (.cells #[.slice oa (digs n).length cap] 153)
  have B4' := Box.new (w1.setCell ⟨w.heap.size + 1, 0, none⟩ (.slice (some ⟨w.heap.size + 1 + 1 + 1, 0, none⟩) (digs n).length (digs n).length)) 153 (.slice oa (digs n).length cap)
  have HW' := ((HW.out.kept (grownBy_set (World.grownBy.refl w1 (some (w.heap.size + 1))) 0 (.slice (some ⟨w.heap.size + 1 + 1 + 1, 0, none⟩) (digs n).length (digs n).length)) (Or.inr (fun h => by have : w.heap.size + 1 + 1 + 1 = w.heap.size + 1 := Option.some.inj h; omega))).alloc (.cells #[.slice oa (digs n).length cap] 153))
  have BW' := (BW.out.setCell (p := ⟨w.heap.size + 1, 0, none⟩) (by show w.heap.size ≤ w.heap.size + 1; omega) (.slice (some ⟨w.heap.size + 1 + 1 + 1, 0, none⟩) (digs n).length (digs n).length)).alloc (by have := BW.out.size; rw [World.size_setCell]; omega) (.cells #[.slice oa (digs n).length cap] 153)
  rw [World.size_setCell] at B4'
  have hsz0 : ((w1.setCell ⟨w.heap.size + 1, 0, none⟩ (.slice (some ⟨w.heap.size + 1 + 1 + 1, 0, none⟩) (digs n).length (digs n).length)).alloc (.cells #[.slice oa (digs n).length cap] 153)).heap.size = w1.heap.size + 1 := by simp
  rw [World.size_setCell]
  generalize hW0 : (w1.setCell ⟨w.heap.size + 1, 0, none⟩ (.slice (some ⟨w.heap.size + 1 + 1 + 1, 0, none⟩) (digs n).length (digs n).length)).alloc (.cells #[.slice oa (digs n).length cap] 153) = W0 at *
  clear hW0 HW B0 B1 B2 BW
  obtain ⟨ga, hga, hg2, hg3, hgS⟩ : ∃ ga, (∀ g, oa = some ⟨g, 0, none⟩ → g = ga) ∧ ga ≠ w.heap.size + 2 ∧ ga ≠ w.heap.size + 3 ∧ ga < w1.heap.size + 1 := by
    by_cases h0 : 0 < (digs n).length
    · obtain ⟨g, rfl, _, hlt⟩ := OwnN.at HO.out h0
      exact ⟨g, (fun g' h => by cases h; rfl), by omega, by omega, by omega⟩
    · cases oa with
      | none => exact ⟨w1.heap.size, (fun g h => by cases h), by omega, by omega, by omega⟩
      | some a =>
        obtain ⟨_, _, hv, _, h2, _⟩ := HO.out.shape
        cases hv
        obtain ⟨_, _, hlt⟩ := h2 a rfl
        exact ⟨a.block, (fun g h => by cases h; rfl), by omega, by omega, by omega⟩
  have HB0 := Lib.hid B0'
  have HB1 := Lib.hid B1'
  have HB2 := Lib.hid B2'
  have HB4 := Lib.hid B4'
  have HQ := Lib.hid HW'
  have HBW := Lib.hid BW'
  have HGA := Lib.hid hga
  have HS0 := Lib.hid hsz0
  clear B0' B1' B2' B4' HW' BW' hga hsz0
  gi_wp2_with fail
  refine wpIn_rangeFunc_ownG rfl (by omega) (gf := 164) (lb := #[.pointer (some ⟨w1.heap.size, 0, none⟩)]) rfl trivial (enters_of Try.func164 (by kernel_rfl) rfl)
    (bits_stops 2 w1.heap.size B n cap ga (by omega) (by omega) W0 oa (HO.out.below HBW.out) HGA.out HB4.out.cell (by rw [HS0.out]; omega)) keep2_t
    (fun W l o o' hl ho _ _ => ⟨World.putObj_heap_other (by rw [HS0.out] at hl; omega), World.putObj_heap_other (by rw [HS0.out] at hl; omega)⟩) (Below.refl _ _) (fun _ => rfl)
    (divI w W0.heap.size n m cap' ob) (fun _ _ _ => False)
    (OwnFrom.and (fun s A C row hs hg hr => by
      obtain ⟨rv, h0, h1, h2, h3, h4, h5⟩ := hs
      have hr' : ∀ r, row = some r → ∃ o : Obj, A.heap[r]? = some o ∧ o.isCells = false := fun r e => (hr r e).2
      exact ⟨rv, h0.cells hg hr', h1.cells hg hr', h2.cells hg hr', OwnN.cells h3 hg hr', OwnN.cells h4 hg hr', Nat.le_trans h5 hg.size⟩) (ownFrom_below (Nat.le_refl _) (by have := HBW.out.size; omega)))
    (fun _ _ _ _ _ hs _ _ => hs)
    ⟨⟨_, HB0.out, HB1.out, HB2.out, by rw [divSt_nil, dgl_zero]; exact HQ.out, by rw [divSt_nil]; exact OwnN.nil _ _ _ _, Nat.le_refl _⟩, HBW.out⟩
    (fun x => { tmps := #[.slice oa (digs n).length cap, .slice ob (digs m).length cap', undef, .pointer (some ⟨w.heap.size, 0, none⟩), .pointer (some ⟨w.heap.size + 1, 0, none⟩), .pointer (some ⟨w.heap.size + 1 + 1, 0, none⟩), .int .i64 ((x.1.1 : Nat) : Int), .int .u64 ((x.1.2 : Nat) : Int), .slice oa (digs n).length cap, .int .i64 ((digs n).length : Int), .slice (some ⟨w.heap.size + 1 + 1 + 1, 0, none⟩) (digs n).length (digs n).length, .slice oa (digs n).length cap, .func (.func 164) #[] #[.pointer (some ⟨w1.heap.size, 0, none⟩)], .int .i64 ((x.1.1 : Nat) : Int), .int .u64 ((x.1.2 : Nat) : Int), undef, undef, undef, undef, undef, undef, undef, undef, undef, undef, undef, undef, undef, undef, undef, undef, undef, undef, undef, undef, undef, undef, undef], defers := [] }) ?assign ?body ?done ?stop
  case assign =>
    intro l x W K hK
    gi_wp2
    exact hK
  case stop =>
    rintro D c pre W _ _ h _
    exact h.elim
  case body =>
    rintro l pre x W ⟨⟨rv, b0, b1, b2, hq, hr, hSW⟩, hbw⟩ hlt
    have hstep := divSt_snoc m pre x
    have hrm := divSt_lt m hm pre
    obtain ⟨⟨q, r⟩, hs⟩ : ∃ s, divSt m pre = s := ⟨_, rfl⟩
    rw [hs] at hstep hrm hq hr
    clear hs
    have hp := x.2.1 (by omega)
    have hb := x.2.2
    dsimp only
    generalize x.1.1 = p at *
    generalize x.1.2 = b at *
    have HST := Lib.hid hstep
    have B0 := Lib.hid b0
    have B1 := Lib.hid b1
    have B2 := Lib.hid b2
    have HQ' := Lib.hid hq
    have HR := Lib.hid hr
    have HBW' := Lib.hid hbw
    have hlr : (digs r).length ≤ (digs m).length := (digs_length_le _ _).2 (Nat.lt_trans hrm (digs_lt m))
    have c2 : W.cell? ⟨w.heap.size + 1 + 1, 0, none⟩ = some rv := b2.cell
    have hown : ∀ j, j < W0.heap.size → some j ≠ rv.ownBlock := fun j hj h => by have := (hr.lt j h.symm).1; omega
    have HOW := Lib.hid hown
    clear hstep b0 b1 b2 hq hr hbw hown
    gi_wp2_with fail
    refine ⟨trivial, (CallsIn.inRound l (callsIn_wide.2 (double_any W0.heap.size rv r b W HR.out hb (by omega) hSW))).mono ?_⟩
    rintro e W1 ⟨v', rfl, hr1, hg1⟩
    have hub : ∀ row : Option Nat, (∀ g, row = some g → w.heap.size ≤ g) → (Value.slice ob (digs m).length cap').ownBlock = none ∨ (Value.slice ob (digs m).length cap').ownBlock ≠ row := fun row h => by
      by_cases he : (Value.slice ob (digs m).length cap').ownBlock = row
      · cases hv : (Value.slice ob (digs m).length cap').ownBlock with
        | none => exact Or.inl rfl
        | some g => have h1 := (HU.out.lt g hv).2; have h2 := h g (by rw [← he, hv]); omega
      · exact Or.inr he
    have hl2 : (digs (2 * r + b)).length ≤ 4097 := digs_twice _ m 4096 hlm (by omega)
    obtain ⟨oc, cc, rfl, hcc, hccm⟩ := hr1.shp
    have hSw : w.heap.size ≤ W0.heap.size := HBW.out.size
    have hS1 : W0.heap.size ≤ W1.heap.size := Nat.le_trans hSW hg1.size
    have hS0 := HS0.out
    have B0a := B0.out.grown hg1 (HOW.out _ (by omega))
    have B1a := B1.out.grown hg1 (HOW.out _ (by omega))
    have B2a := B2.out.grown hg1 (HOW.out _ (by omega))
    have HQa := HQ'.out.kept hg1 (Or.inr (HOW.out (w.heap.size + 3) (by omega)))
    have HBa := below_grown hg1 (show w.heap.size ≤ W.heap.size by have := HBW'.out.size; omega) (fun k h => by have := (HR.out.lt k h).1; have := HBW.out.size; omega)
    have c2 : W1.cell? ⟨w.heap.size + 1 + 1, 0, none⟩ = some rv := B2a.cell
    have f2 : W1.frozen? ⟨w.heap.size + 1 + 1, 0, none⟩ = false := B2a.free
    have c0 : W1.cell? ⟨w.heap.size, 0, none⟩ = some (.slice ob (digs m).length cap') := B0a.cell
    have hne : ∀ j, j < W0.heap.size → (Value.slice oc (digs (2 * r + b)).length cc).ownBlock = none ∨ (Value.slice oc (digs (2 * r + b)).length cc).ownBlock ≠ some j := fun j hj => Or.inr fun h => by have := (hr1.lt j h).1; omega
    have HR2 := hr1.kept (grownBy_set (World.grownBy.refl W1 (some (w.heap.size + 1 + 1))) 0 (.slice oc (digs (2 * r + b)).length cc)) (hne _ (by omega))
    have HU2 := ((HU.out.below HBW'.out).kept hg1 (hub _ (fun g h => by have := (HR.out.lt g h).1; omega))).kept (grownBy_set (World.grownBy.refl W1 (some (w.heap.size + 1 + 1))) 0 (.slice oc (digs (2 * r + b)).length cc)) (hub _ (fun g h => by cases h; omega))
    have HRR := Lib.hid HR2
    have HUU := Lib.hid HU2
    have HNE := Lib.hid hne
    have HG1 := Lib.hid hg1
    have HUB := Lib.hid hub
    have HR1 := Lib.hid hr1
    have B0a' := Lib.hid B0a
    have B1a' := Lib.hid B1a
    have B2a' := Lib.hid B2a
    have HQa' := Lib.hid HQa
    have HBa' := Lib.hid HBa
    clear hub HR2 HU2 hne hg1 hr1 B0a B1a B2a HQa HBa hS0
    gi_wp2_with fail
    refine ⟨trivial, (CallsIn.inRound l (callsIn_wide.2 (compare_any W0.heap.size B' _ _ (2 * r + b) m _ HRR.out HUU.out (by omega) (by omega)))).mono ?_⟩
    rintro e W2 ⟨rfl, k2, rfl⟩
    have hK3 := ((divK.grown (H := w.heap.size) hSW HG1.out HR.out).trans (divK.set W1 (w.heap.size + 1 + 1) 0 (.slice oc (digs (2 * r + b)).length cc) (Or.inl rfl))).drewN k2
    have B0c := ((B0a'.out.other ⟨w.heap.size + 1 + 1, 0, none⟩ (by show w.heap.size ≠ w.heap.size + 1 + 1; omega) (.slice oc (digs (2 * r + b)).length cc)).drewN k2)
    have B1c := ((B1a'.out.other ⟨w.heap.size + 1 + 1, 0, none⟩ (by show w.heap.size + 1 ≠ w.heap.size + 1 + 1; omega) (.slice oc (digs (2 * r + b)).length cc)).drewN k2)
    have B2c := ((B2a'.out.set (.slice oc (digs (2 * r + b)).length cc)).drewN k2)
    have HRc : OwnU ((W1.setCell ⟨w.heap.size + 1 + 1, 0, none⟩ (.slice oc (digs (2 * r + b)).length cc)).drewN k2) W0.heap.size (.slice oc (digs (2 * r + b)).length cc) (digs (2 * r + b)) := HRR.out
    have HUc : OwnU ((W1.setCell ⟨w.heap.size + 1 + 1, 0, none⟩ (.slice oc (digs (2 * r + b)).length cc)).drewN k2) B' (.slice ob (digs m).length cap') (digs m) := HUU.out
    have HQc : OwnU ((W1.setCell ⟨w.heap.size + 1 + 1, 0, none⟩ (.slice oc (digs (2 * r + b)).length cc)).drewN k2) (w.heap.size + 3) (.slice (some ⟨w.heap.size + 3, 0, none⟩) (digs n).length (digs n).length) (dgl (digs n).length q) :=
      (HQa'.out.kept (grownBy_set (World.grownBy.refl W1 (some (w.heap.size + 1 + 1))) 0 (.slice oc (digs (2 * r + b)).length cc)) (Or.inr (fun h => by have : w.heap.size + 3 = w.heap.size + 1 + 1 := Option.some.inj h; omega))).drewN k2
    have HBc : Below w.heap.size w ((W1.setCell ⟨w.heap.size + 1 + 1, 0, none⟩ (.slice oc (digs (2 * r + b)).length cc)).drewN k2) :=
      below_drewN ((HBW'.out.trans HBa'.out).setCell (p := ⟨w.heap.size + 1 + 1, 0, none⟩) (by show w.heap.size ≤ w.heap.size + 1 + 1; omega) _) k2
    have hS3 : W0.heap.size ≤ ((W1.setCell ⟨w.heap.size + 1 + 1, 0, none⟩ (.slice oc (digs (2 * r + b)).length cc)).drewN k2).heap.size := by
      show _ ≤ (W1.setCell _ _).heap.size; rw [World.size_setCell]; exact hS1
    clear c2 f2 c0 HRR HUU B0a' B1a' B2a' HQa' HBa' HG1 HR1 B0 B1 B2 HQ' HR HBW' HOW hS1
    generalize (W1.setCell ⟨w.heap.size + 1 + 1, 0, none⟩ (.slice oc (digs (2 * r + b)).length cc)).drewN k2 = W3 at *
    have HK3 := Lib.hid hK3
    have G0 := Lib.hid B0c
    have G1 := Lib.hid B1c
    have G2 := Lib.hid B2c
    have GR := Lib.hid HRc
    have GU := Lib.hid HUc
    have GQ := Lib.hid HQc
    have GB := Lib.hid HBc
    have c0 : W3.cell? ⟨w.heap.size, 0, none⟩ = some (.slice ob (digs m).length cap') := B0c.cell
    have c1 : W3.cell? ⟨w.heap.size + 1, 0, none⟩ = some (.slice (some ⟨w.heap.size + 3, 0, none⟩) (digs n).length (digs n).length) := B1c.cell
    have c2 : W3.cell? ⟨w.heap.size + 1 + 1, 0, none⟩ = some (.slice oc (digs (2 * r + b)).length cc) := B2c.cell
    clear hK3 B0c B1c B2c HRc HUc HQc HBc
    by_cases hle : m ≤ 2 * r + b
    · have hc : 0 ≤ cmpN (2 * r + b) m := by
        unfold cmpN; rw [if_neg (by omega)]; split <;> omega
      generalize cmpN (2 * r + b) m = cv at *
      gi_wp2_with fail
      refine ⟨trivial, (CallsIn.inRound l (callsIn_wide.2 (less_any W0.heap.size B' _ _ (2 * r + b) m W3 GR.out GU.out hle (by omega) (by omega) (HUB.out _ (fun g h => by have := (GR.out.lt g h).1; omega))))).mono ?_⟩
      rintro e W4 ⟨v2, rfl, hr4, hob4, hg4⟩
      have hlow : ∀ j, j < W0.heap.size → some j ≠ (Value.slice oc (digs (2 * r + b)).length cc).ownBlock := fun j hj h => by have := (GR.out.lt j h.symm).1; omega
      have hK4 := HK3.out.trans (divK.grown (H := w.heap.size) hS3 hg4 GR.out)
      have G0' := G0.out.grown hg4 (hlow _ (by rw [HS0.out]; omega))
      have G1' := G1.out.grown hg4 (hlow _ (by rw [HS0.out]; omega))
      have G2' := G2.out.grown hg4 (hlow _ (by rw [HS0.out]; omega))
      have GQ' := GQ.out.kept hg4 (Or.inr (hlow (w.heap.size + 3) (by rw [HS0.out]; omega)))
      have GB' := GB.out.trans (below_grown hg4 (by omega) (fun k h => by have := (GR.out.lt k h).1; omega))
      have hS4 : W0.heap.size ≤ W4.heap.size := Nat.le_trans hS3 hg4.size
      obtain ⟨od, cd, rfl, hcd, hcdm⟩ := hr4.shp
      have hne4 : ∀ j, j < W0.heap.size → (Value.slice od (digs (2 * r + b - m)).length cd).ownBlock = none ∨ (Value.slice od (digs (2 * r + b - m)).length cd).ownBlock ≠ some j := fun j hj => Or.inr fun h => by have := (hr4.lt j h).1; omega
      have HK4 := Lib.hid hK4
      have K0 := Lib.hid G0'
      have K1 := Lib.hid G1'
      have K2 := Lib.hid G2'
      have KR := Lib.hid hr4
      have KQ := Lib.hid GQ'
      have KB := Lib.hid GB'
      have KN := Lib.hid hne4
      have d1 : W4.cell? ⟨w.heap.size + 1, 0, none⟩ = some (.slice (some ⟨w.heap.size + 3, 0, none⟩) (digs n).length (digs n).length) := G1'.cell
      have d2 : W4.cell? ⟨w.heap.size + 1 + 1, 0, none⟩ = some (.slice oc (digs (2 * r + b)).length cc) := G2'.cell
      have e2 : W4.frozen? ⟨w.heap.size + 1 + 1, 0, none⟩ = false := G2'.free
      have hp32 : p / 32 < (digs n).length := by omega
      have d3 := OwnN.cell GQ' (p / 32) (by rw [dgl_length]; exact hp32)
      rw [dgl_get _ _ _ hp32] at d3
      have e3 := OwnN.frozen GQ' (p / 32)
      generalize hx : q / B32 ^ (p / 32) % B32 = xd at d3
      have hxd : xd < 4294967296 := by rw [← hx]; exact Nat.mod_lt _ (by unfold B32; omega)
      have HX := Lib.hid hx
      clear c0 c1 c2 HK3 G0 G1 G2 GR GU GQ GB hlow hob4 hg4 hK4 G0' G1' G2' GQ' GB' hr4 hne4 hx hS3
      gi_wp2_with fail
      have hq1 : IntKind.i64.wrap ((p : Int) / 32) = (p : Int) / 32 := IntWalk.i64_in _ (by omega)
      have hq2 : IntKind.i64.wrap ((p : Int) % 32) = (p : Int) % 32 := IntWalk.i64_in _ (by omega)
      have hpi : (p : Int) / 32 < ((digs n).length : Int) := by omega
      have hpj : (0 : Int) ≤ (p : Int) / 32 := by omega
      have hpk : ((p : Int) / 32).toNat = p / 32 := by omega
      have hpm : ((p : Int) % 32).toNat = p % 32 := by omega
      have hpn : (0 : Int) ≤ (p : Int) % 32 := by omega
      have hpo : (p : Int) % 32 ≤ 64 := by omega
      have hpt : (p : Int).tmod 32 = (p : Int) % 32 := Int.tmod_eq_emod_of_nonneg (by omega)
      have hmx : Try.prog.follows .mixedOrders = true := by kernel_rfl
      refine wpIn_round_still_tail 10 hmx (by kernel_rfl) (by kernel_rfl) (by rintro ⟨a, w, h⟩; exact h) ?_
      simp only [List.take_succ_cons, List.take_zero, List.drop_succ_cons, List.drop_zero]
      repeat still_step
      refine wpStill_nil ?_
      go_wp2_with fail
      have e5 : bits BinOp.or IntKind.u64 (xd : Int) (IntKind.u64.wrap (2 ^ (p % 32))) = ((xd ||| (1 <<< (p % 32)) : Nat) : Int) := by
        have h1 : 2 ^ (p % 32) ≤ 2 ^ 31 := Nat.pow_le_pow_right (by omega) (by omega)
        simp only [Nat.reducePow] at h1
        have h2 : ((2 : Int) ^ (p % 32)) = ((2 ^ (p % 32) : Nat) : Int) := by simp
        rw [h2, wrapU _ (by omega), orU _ _ (by omega) (by omega), Nat.shiftLeft_eq, Nat.one_mul]
      rw [e5]
      have hd := OwnN.stored ((KQ.out.kept (grownBy_set (World.grownBy.refl W4 (some (w.heap.size + 1 + 1))) 0 (.slice od (digs (2 * r + b - m)).length cd)) (Or.inr (fun h => by have : w.heap.size + 3 = w.heap.size + 1 + 1 := Option.some.inj h; omega)))) (p / 32) (xd ||| (1 <<< (p % 32)))
      rw [← HX.out, dgl_or _ _ _ _ (by have : 2 ^ 1 ≤ 2 ^ (32 - p % 32) := Nat.pow_le_pow_right (by omega) (by omega); omega)] at hd
      rw [HX.out] at hd
      have hKz := (HK4.out.trans (divK.set W4 (w.heap.size + 1 + 1) 0 (.slice od (digs (2 * r + b - m)).length cd) (Or.inl rfl))).trans (divK.set _ (w.heap.size + 3) (p / 32) (.int .u64 ((xd ||| (1 <<< (p % 32)) : Nat) : Int)) (Or.inr rfl))
      refine ⟨⟨hKz.size, fun k o _ h1 h2 => hKz.same k o h1 h2⟩, ⟨hKz.low _ (by rw [HS0.out]; omega) (by omega) (by omega), hKz.low _ (by rw [HS0.out]; omega) hg2 hg3⟩,
        ⟨_, (K0.out.other ⟨w.heap.size + 1 + 1, 0, none⟩ (by show w.heap.size ≠ w.heap.size + 1 + 1; omega) _).other ⟨w.heap.size + 3, p / 32, none⟩ (by show w.heap.size ≠ w.heap.size + 3; omega) _,
          (K1.out.other ⟨w.heap.size + 1 + 1, 0, none⟩ (by show w.heap.size + 1 ≠ w.heap.size + 1 + 1; omega) _).other ⟨w.heap.size + 3, p / 32, none⟩ (by show w.heap.size + 1 ≠ w.heap.size + 3; omega) _,
          (K2.out.set (.slice od (digs (2 * r + b - m)).length cd)).other ⟨w.heap.size + 3, p / 32, none⟩ (by show w.heap.size + 2 ≠ w.heap.size + 3; omega) _, ?_, ?_, ?_⟩, ?_⟩
      · rw [HST.out, divStep, if_pos hle]; exact hd.1
      · rw [HST.out, divStep, if_pos hle]
        exact (((KR.out.kept (grownBy_set (World.grownBy.refl W4 (some (w.heap.size + 1 + 1))) 0 (.slice od (digs (2 * r + b - m)).length cd)) (KN.out (w.heap.size + 1 + 1) (by rw [HS0.out]; omega)))).kept (grownBy_set (World.grownBy.refl (W4.setCell ⟨w.heap.size + 1 + 1, 0, none⟩ (.slice od (digs (2 * r + b - m)).length cd)) (some (w.heap.size + 3))) (p / 32) (.int .u64 ((xd ||| (1 <<< (p % 32)) : Nat) : Int))) (KN.out (w.heap.size + 3) (by rw [HS0.out]; omega))).drew
      · show _ ≤ ((W4.setCell _ _).setCell _ _).heap.size
        rw [World.size_setCell, World.size_setCell]; exact hS4
      · exact ((KB.out.setCell (p := ⟨w.heap.size + 1 + 1, 0, none⟩) (by show w.heap.size ≤ w.heap.size + 1 + 1; omega) _).setCell (p := ⟨w.heap.size + 3, p / 32, none⟩) (by show w.heap.size ≤ w.heap.size + 3; omega) _).drew
    · rw [cmpN_lt (by omega)]
      gi_wp2_with fail
      refine ⟨⟨HK3.out.size, fun k o _ h1 h2 => HK3.out.same k o h1 h2⟩, ⟨HK3.out.low _ (by rw [HS0.out]; omega) (by omega) (by omega), HK3.out.low _ (by rw [HS0.out]; omega) hg2 hg3⟩,
        ⟨_, G0.out, G1.out, G2.out, ?_, ?_, hS3⟩, GB.out⟩
      · rw [HST.out, divStep, if_neg hle]; exact GQ.out
      · rw [HST.out, divStep, if_neg hle]; exact GR.out
  case done =>
    rintro D xs W hD rfl ⟨⟨rv, b0, b1, b2, hq, hr, hSW⟩, hbw⟩ hK
    obtain ⟨ov, cv, rfl, _, _⟩ := hr.shp
    have hlt : n < 2 ^ (32 * (digs n).length) := by rw [← B32_pow]; exact digs_lt n
    have hall := divSt_all n m _ hm hlt
    rw [hall] at hq hr b2
    dsimp only at hq hr b2
    have hqn : n / m < B32 ^ (digs n).length := Nat.lt_of_le_of_lt (Nat.div_le_self _ _) (digs_lt n)
    have hqd : dv (dgl (digs n).length (n / m)) = n / m := by rw [dv_dgl, Nat.mod_eq_of_lt hqn]
    have HQD := Lib.hid hqd
    have B1 := Lib.hid b1
    have B2 := Lib.hid b2
    have HQ' := Lib.hid hq
    have HR := Lib.hid hr
    have HBW' := Lib.hid hbw
    have HK := Lib.hid hK
    have c1 : W.cell? ⟨w.heap.size + 1, 0, none⟩ = some (.slice (some ⟨w.heap.size + 3, 0, none⟩) (digs n).length (digs n).length) := b1.cell
    have c2 : W.cell? ⟨w.heap.size + 1 + 1, 0, none⟩ = some (.slice ov (digs (n % m)).length cv) := b2.cell
    have f1 : W.frozen? ⟨w.heap.size + 1, 0, none⟩ = false := b1.free
    have f2 : W.frozen? ⟨w.heap.size + 1 + 1, 0, none⟩ = false := b2.free
    clear hlt hall hq hr hqn hqd b0 b1 b2 hbw hK
    dsimp only
    gi_wp2_with fail
    refine wpIn_wide.2 ?_
    have ht := trim_at (w.heap.size + 3) (some ⟨w.heap.size + 3, 0, none⟩) (digs n).length (dgl (digs n).length (n / m)) W.drew (by rw [dgl_length]; exact HQ'.out) (small_dgl _ _) (by rw [dgl_length]; omega)
    rw [HQD.out, dgl_length] at ht
    have HT := Lib.hid ht
    clear ht
    go_region_with (go_at_call 153; refine (HT.out).mono ?_; rintro e w' ⟨rfl, rfl⟩)
    all_goals
      have hK2 : ((W.setCell ⟨w.heap.size + 1, 0, none⟩ (.slice (some ⟨w.heap.size + 3, 0, none⟩) (digs (n / m)).length (digs n).length)).setCell ⟨w.heap.size + 1 + 1, 0, none⟩ (.slice ov (digs (n % m)).length cv)).drew.heap[D]? = some (.deferred (some [])) :=
        (KeepsOthers.setCell _ _ _).same D _ ((KeepsOthers.setCell _ _ _).same D _ HK.out rfl) rfl
      have hb1 : Box ((W.setCell ⟨w.heap.size + 1, 0, none⟩ (.slice (some ⟨w.heap.size + 3, 0, none⟩) (digs (n / m)).length (digs n).length)).setCell ⟨w.heap.size + 1 + 1, 0, none⟩ (.slice ov (digs (n % m)).length cv)).drew (w.heap.size + 1) 153 _ := ((B1.out.set (.slice (some ⟨w.heap.size + 3, 0, none⟩) (digs (n / m)).length (digs n).length)).other ⟨w.heap.size + 1 + 1, 0, none⟩ (by show w.heap.size + 1 ≠ w.heap.size + 1 + 1; omega) (.slice ov (digs (n % m)).length cv))
      have hb2 : Box ((W.setCell ⟨w.heap.size + 1, 0, none⟩ (.slice (some ⟨w.heap.size + 3, 0, none⟩) (digs (n / m)).length (digs n).length)).setCell ⟨w.heap.size + 1 + 1, 0, none⟩ (.slice ov (digs (n % m)).length cv)).drew (w.heap.size + 2) 153 _ := ((B2.out.other ⟨w.heap.size + 1, 0, none⟩ (by show w.heap.size + 2 ≠ w.heap.size + 1; omega) (.slice (some ⟨w.heap.size + 3, 0, none⟩) (digs (n / m)).length (digs n).length)).set (.slice ov (digs (n % m)).length cv))
      have hq1 := ((HQ'.out.trimmed (small_dgl _ _)).kept (grownBy_set (World.grownBy.refl W (some (w.heap.size + 1))) 0 (.slice (some ⟨w.heap.size + 3, 0, none⟩) (digs (n / m)).length (digs n).length)) (Or.inr (fun h => by have : w.heap.size + 3 = w.heap.size + 1 := Option.some.inj h; omega))).kept
        (grownBy_set (World.grownBy.refl (W.setCell ⟨w.heap.size + 1, 0, none⟩ (.slice (some ⟨w.heap.size + 3, 0, none⟩) (digs (n / m)).length (digs n).length)) (some (w.heap.size + 1 + 1))) 0 (.slice ov (digs (n % m)).length cv)) (Or.inr (fun h => by have : w.heap.size + 3 = w.heap.size + 1 + 1 := Option.some.inj h; omega))
      have hnv : ∀ j, j < W0.heap.size → (Value.slice ov (digs (n % m)).length cv).ownBlock = none ∨ (Value.slice ov (digs (n % m)).length cv).ownBlock ≠ some j := fun j hj => Or.inr fun h => by have := (HR.out.lt j h).1; omega
      have hr1 := (HR.out.kept (grownBy_set (World.grownBy.refl W (some (w.heap.size + 1))) 0 (.slice (some ⟨w.heap.size + 3, 0, none⟩) (digs (n / m)).length (digs n).length)) (hnv _ (by rw [HS0.out]; omega))).kept
        (grownBy_set (World.grownBy.refl (W.setCell ⟨w.heap.size + 1, 0, none⟩ (.slice (some ⟨w.heap.size + 3, 0, none⟩) (digs (n / m)).length (digs n).length)) (some (w.heap.size + 1 + 1))) 0 (.slice ov (digs (n % m)).length cv)) (hnv _ (by rw [HS0.out]; omega))
      have hbe := ((HBW'.out.setCell (p := ⟨w.heap.size + 1, 0, none⟩) (by show w.heap.size ≤ w.heap.size + 1; omega) (.slice (some ⟨w.heap.size + 3, 0, none⟩) (digs (n / m)).length (digs n).length)).setCell (p := ⟨w.heap.size + 1 + 1, 0, none⟩) (by show w.heap.size ≤ w.heap.size + 1 + 1; omega) (.slice ov (digs (n % m)).length cv)).drew
      rw [HQD.out] at hq1
      have hq1 := hq1.drew
      have hr1 := hr1.drew
      have hSw : w.heap.size ≤ W0.heap.size := HBW.out.size
      generalize ((W.setCell ⟨w.heap.size + 1, 0, none⟩ (.slice (some ⟨w.heap.size + 3, 0, none⟩) (digs (n / m)).length (digs n).length)).setCell ⟨w.heap.size + 1 + 1, 0, none⟩ (.slice ov (digs (n % m)).length cv)).drew = WW at *
      simp only [Exit.then]
      have HK2 := Lib.hid hK2
      have HB1 := Lib.hid hb1
      have HB2 := Lib.hid hb2
      have HQ1 := Lib.hid hq1
      have HR1 := Lib.hid hr1
      have HBE := Lib.hid hbe
      have HNV := Lib.hid hnv
      clear hK2 hb1 hb2 hq1 hr1 hbe hnv c1 c2 f1 f2
      gi_wp2_with fail
      refine ⟨by simp, .inl ⟨_, _, rfl, run_takeDeferred HK2.out, ?_⟩⟩
      have hDc : ∀ r, some D = some r → ∃ o : Obj, WW.heap[r]? = some o ∧ o.isCells = false := fun r e => by cases e; exact ⟨_, HK2.out, rfl⟩
      have hc1 := (HB1.out.cells (grownBy_putObj' WW D (.deferred none)) hDc).cell
      have hc2 := (HB2.out.cells (grownBy_putObj' WW D (.deferred none)) hDc).cell
      refine ⟨.tuple #[.slice (some ⟨w.heap.size + 3, 0, none⟩) (digs (n / m)).length (digs n).length, .slice ov (digs (n % m)).length cv], ?_, _, _, rfl, ?_, ?_, ?_⟩
      · have hc2' : (WW.putObj D (.deferred none)).cell? ⟨w.heap.size + 1 + 1, 0, none⟩ = some (.slice ov (digs (n % m)).length cv) := hc2
        simp [results, Try.results106, go_sem, hc1, hc2']
      · exact (HQ1.out.cells (grownBy_putObj' WW D (.deferred none)) hDc).mono (by omega)
      · exact (HR1.out.cells (grownBy_putObj' WW D (.deferred none)) hDc).mono hSw
      · exact HBE.out.trans (belowK_b (w := w) (Nat.le_refl _) WW D _ _ (by omega) HK2.out rfl rfl)

end Go.Proofs.Ytmcejefeloljiaa

/-
  The walks of package naturals: Check, Compare, Sub, Div, Gcd, Of.
-/
namespace Go.Proofs.Ytmcejefeloljiaa
set_option linter.unusedVariables false
set_option linter.unusedSimpArgs false
open Go.RowKit Nm

theorem cells1 (w : World) (a : ByteArray) (t : TypeId) : ∀ j (h : j < [a].length), (w.alloc (.cells #[.string a] t)).cell? ⟨w.heap.size, j, none⟩ = some (.string [a][j]) := by
  intro j h
  match j, h with
  | 0, _ => rw [World.cell?_alloc_at _ _ _ _ rfl]; rfl
theorem cells2 (w : World) (a b : ByteArray) (t : TypeId) : ∀ j (h : j < [a, b].length), (w.alloc (.cells #[.string a, .string b] t)).cell? ⟨w.heap.size, j, none⟩ = some (.string [a, b][j]) := by
  intro j h
  match j, h with
  | 0, _ => rw [World.cell?_alloc_at _ _ _ _ rfl]; rfl
  | 1, _ => rw [World.cell?_alloc_at _ _ _ _ rfl]; rfl

/-- 'check(a, b)' -/
theorem check2 (a b : ByteArray) (w : World) (ha : a.size ≤ maxLen) (hb : b.size ≤ maxLen) :
    Calls Try.prog 105 #[.slice (some ⟨w.heap.size, 0, none⟩) 2 2] (w.alloc (.cells #[.string a, .string b] 9)) fun e w' => e = .returned (.int .i64 (chkN [a, b])) ∧ w.alloc (.cells #[.string a, .string b] 9) = w' :=
  check_any w.heap.size 2 [a, b] _ (by simp) (cells2 w a b _) (by simp; exact ⟨ha, hb⟩)
theorem check1 (a : ByteArray) (w : World) (ha : a.size ≤ maxLen) :
    Calls Try.prog 105 #[.slice (some ⟨w.heap.size, 0, none⟩) 1 1] (w.alloc (.cells #[.string a] 9)) fun e w' => e = .returned (.int .i64 (chkN [a])) ∧ w.alloc (.cells #[.string a] 9) = w' :=
  check_any w.heap.size 1 [a] _ (by simp) (cells1 w a _) (by simp; exact ha)

set_option maxHeartbeats 400000 in
theorem Check_any (a : ByteArray) (w : World) (ha : a.size ≤ maxLen) :
    Calls Try.prog 59 #[.string a] w fun e w' => e = .returned (.int .i64 (chkN [a])) ∧ Below w.heap.size w w' := by
  go_enter Try.func59, Try.ntmps59
  go_wp2_with fail
  refine (check1 a w ha).mono ?_
  rintro e w' ⟨rfl, rfl⟩
  go_wp2_with fail
  go_ret
  exact ⟨rfl, (Below.refl _ _).alloc (Nat.le_refl _) _⟩

set_option maxHeartbeats 400000 in
theorem Compare_any (a b : ByteArray) (w : World) (ha : a.size ≤ maxLen) (hb : b.size ≤ maxLen) :
    Calls Try.prog 124 #[.string a, .string b] w fun e w' => e = .returned (.tuple #[.int .i64 (cmpF a b).1, .int .i64 (cmpF a b).2]) ∧ Below w.heap.size w w' := by
  go_enter Try.func124, Try.ntmps124
  go_wp2_with fail
  refine (check2 a b w ha hb).mono ?_
  rintro e w' ⟨rfl, rfl⟩
  have hbl : Below w.heap.size w (w.alloc (.cells #[.string a, .string b] 9)) := (Below.refl _ _).alloc (Nat.le_refl _) _
  generalize w.alloc (.cells #[.string a, .string b] 9) = w1 at *
  by_cases h : chkN [a, b] = 0
  · have E : Hid (cmpF a b = (cmpN (nv a) (nv b), 0)) := if_pos h
    obtain ⟨n1, n2, s1, s2⟩ := chk2_zero h
    rw [h]
    clear h ha hb
    go_wp2_with fail
    refine (words_nat a _ (by omega) n1).mono ?_
    rintro e w2 ⟨v, rfl, hv, hb2⟩
    go_wp2_with fail
    refine (words_nat b _ (by omega) n2).mono ?_
    rintro e w3 ⟨u, rfl, hu, hb3⟩
    go_wp2_with fail
    refine (compare_any _ _ v u _ _ _ (hv.below hb3) hu (by have := digs_of_size s1; omega) (by have := digs_of_size s2; omega)).mono ?_
    rintro e w4 ⟨rfl, k, rfl⟩
    go_wp2_with fail
    go_ret2
    exact ⟨by rw [E.out]; rfl, below_drewN (hbl.trans ((hb2.mono hbl.size).trans (hb3.mono (Nat.le_trans hbl.size hb2.size)))) k⟩
  · have E : Hid (cmpF a b = (0, chkN [a, b])) := if_neg h
    have h2 : (chkN [a, b] != 0) = true := by simpa using h
    go_wp2_with fail
    go_ret2
    exact ⟨by rw [E.out]; rfl, hbl⟩

end Go.Proofs.Ytmcejefeloljiaa

/-
  The walks of package naturals: Sub, Div, Gcd, Of.
-/
namespace Go.Proofs.Ytmcejefeloljiaa
set_option linter.unusedVariables false
set_option linter.unusedSimpArgs false
open Go.RowKit Nm

set_option maxHeartbeats 400000 in
theorem Sub_any (a b : ByteArray) (w : World) (ha : a.size ≤ maxLen) (hb : b.size ≤ maxLen) :
    Calls Try.prog 165 #[.string a, .string b] w fun e w' => e = .returned (.tuple #[.string (subF a b).1, .int .i64 (subF a b).2]) ∧ Below w.heap.size w w' := by
  go_enter Try.func165, Try.ntmps165
  go_wp2_with fail
  refine (check2 a b w ha hb).mono ?_
  rintro e w' ⟨rfl, rfl⟩
  have hbl : Below w.heap.size w (w.alloc (.cells #[.string a, .string b] 9)) := (Below.refl _ _).alloc (Nat.le_refl _) _
  generalize w.alloc (.cells #[.string a, .string b] 9) = w1 at *
  by_cases h : chkN [a, b] = 0
  · have E : Hid (subF a b = if nv a < nv b then (bE, 1) else (encS (nv a - nv b), 0)) := if_pos h
    obtain ⟨n1, n2, s1, s2⟩ := chk2_zero h
    rw [h]
    clear h ha hb
    have l1 := digs_of_size s1
    have l2 := digs_of_size s2
    go_wp2_with fail
    refine (words_nat a _ (by omega) n1).mono ?_
    rintro e w2 ⟨v, rfl, hv, hb2⟩
    go_wp2_with fail
    refine (words_nat b _ (by omega) n2).mono ?_
    rintro e w3 ⟨u, rfl, hu, hb3⟩
    go_wp2_with fail
    refine (compare_any _ _ v u _ _ _ (hv.below hb3) hu (by omega) (by omega)).mono ?_
    rintro e w4 ⟨rfl, k, rfl⟩
    have hb4 : Below w.heap.size w (w3.drewN k) := below_drewN (hbl.trans ((hb2.mono hbl.size).trans (hb3.mono (Nat.le_trans hbl.size hb2.size)))) k
    have hne : u.ownBlock = none ∨ u.ownBlock ≠ v.ownBlock := by
      by_cases he : u.ownBlock = v.ownBlock
      · cases hg : u.ownBlock with
        | none => exact Or.inl rfl
        | some g => have h1 := (hu.lt g hg).1; have h2 := (hv.lt g (by rw [← he, hg])).2; omega
      · exact Or.inr he
    have hv4 := (hv.below hb3).drewN k
    have hu4 := hu.drewN k
    have hs1 : w.heap.size ≤ w1.heap.size := hbl.size
    clear hv hu hb2 hb3 hbl
    generalize w3.drewN k = w4 at *
    by_cases hlt : nv a < nv b
    · rw [cmpN_lt hlt]
      go_wp2_with fail
      go_ret2
      exact ⟨by rw [E.out, if_pos hlt]; rfl, hb4⟩
    · have hc : 0 ≤ cmpN (nv a) (nv b) := by
        unfold cmpN; rw [if_neg hlt]; split <;> omega
      generalize cmpN (nv a) (nv b) = cv at *
      go_wp2_with fail
      refine (less_any _ _ v u _ _ _ hv4 hu4 (by omega) (by omega) (by omega) hne).mono ?_
      rintro e w5 ⟨v2, rfl, hv2, hob, hg⟩
      have hb5 := hb4.trans (below_grown hg hb4.size (fun k hk => by have := (hv4.lt k hk).1; omega))
      clear hob hg hv4 hu4
      go_wp2_with fail
      refine (text_any _ v2 _ _ hv2 (small_digs _) (by have := digs_len_mono (Nat.sub_le (nv a) (nv b)); omega)).mono ?_
      rintro e w6 ⟨rfl, hb6⟩
      go_wp2_with fail
      go_ret2
      exact ⟨by rw [E.out, if_neg hlt, dv_digs]; rfl, hb5.trans (hb6.mono hb5.size)⟩
  · have E : Hid (subF a b = (bE, chkN [a, b])) := if_neg h
    have h2 : (chkN [a, b] != 0) = true := by simpa using h
    go_wp2_with fail
    go_ret2
    exact ⟨by rw [E.out]; rfl, hbl⟩

theorem nv_zero_iff {b : ByteArray} (h : isN b = true) : nv b = 0 ↔ b.size = 0 := by
  rw [nv, val_eq_zero _ h, ← List.length_eq_zero_iff, sdata_length]

set_option maxHeartbeats 400000 in
theorem Div_any (a b : ByteArray) (w : World) (ha : a.size ≤ maxLen) (hb : b.size ≤ maxLen) :
    Calls Try.prog 53 #[.string a, .string b] w fun e w' => e = .returned (.tuple #[.string (divF a b).1, .string (divF a b).2.1, .int .i64 (divF a b).2.2]) ∧ Below w.heap.size w w' := by
  go_enter Try.func53, Try.ntmps53
  go_wp2_with fail
  refine (check2 a b w ha hb).mono ?_
  rintro e w' ⟨rfl, rfl⟩
  have hbl : Below w.heap.size w (w.alloc (.cells #[.string a, .string b] 9)) := (Below.refl _ _).alloc (Nat.le_refl _) _
  generalize w.alloc (.cells #[.string a, .string b] 9) = w1 at *
  by_cases h : chkN [a, b] = 0
  · have E : Hid (divF a b = if nv b = 0 then (bE, bE, 71) else (encS (nv a / nv b), encS (nv a % nv b), 0)) := if_pos h
    obtain ⟨n1, n2, s1, s2⟩ := chk2_zero h
    rw [h]
    clear h ha hb
    have l1 := digs_of_size s1
    have l2 := digs_of_size s2
    by_cases h0 : 0 < b.size
    · have h1 : b.toList.isEmpty = false := isEmpty_false h0
      have hz : ¬ nv b = 0 := fun h => by have := (nv_zero_iff n2).1 h; omega
      have HZ := Lib.hid hz; clear hz
      go_wp2_with fail
      refine (words_nat a _ (by omega) n1).mono ?_
      rintro e w2 ⟨v, rfl, hv, hb2⟩
      go_wp2_with fail
      refine (words_nat b _ (by omega) n2).mono ?_
      rintro e w3 ⟨u, rfl, hu, hb3⟩
      go_wp2_with fail
      refine (divide_any _ _ v u _ _ _ (hv.below hb3) hu (Nat.pos_of_ne_zero HZ.out) (by omega) (by omega)).mono ?_
      rintro e w4 ⟨v1, v2, rfl, hq, hr, hb4⟩
      have hb5 := hbl.trans ((hb2.mono hbl.size).trans ((hb3.mono (Nat.le_trans hbl.size hb2.size)).trans (hb4.mono (Nat.le_trans hbl.size (Nat.le_trans hb2.size hb3.size)))))
      clear hv hu hb2 hb3 hb4 hbl
      go_wp2_with fail
      refine (text_any _ v1 _ _ hq (small_digs _) (by have := digs_len_mono (Nat.div_le_self (nv a) (nv b)); omega)).mono ?_
      rintro e w6 ⟨rfl, hb6⟩
      go_wp2_with fail
      refine (text_any _ v2 _ _ (hr.below hb6) (small_digs _) (by have := digs_len_mono (Nat.mod_le (nv a) (nv b)); omega)).mono ?_
      rintro e w7 ⟨rfl, hb7⟩
      go_wp2_with fail
      go_ret3
      exact ⟨by rw [E.out, if_neg HZ.out, dv_digs, dv_digs]; rfl, hb5.trans ((hb6.mono hb5.size).trans (hb7.mono (Nat.le_trans hb5.size hb6.size)))⟩
    · have h1 : b.toList.isEmpty = true := isEmpty_true h0
      have hz : Hid (nv b = 0) := (nv_zero_iff n2).2 (by omega)
      go_wp2_with fail
      go_ret3
      exact ⟨by rw [E.out, if_pos hz.out]; rfl, hbl⟩
  · have E : Hid (divF a b = (bE, bE, chkN [a, b])) := if_neg h
    have h2 : (chkN [a, b] != 0) = true := by simpa using h
    go_wp2_with fail
    go_ret3
    exact ⟨by rw [E.out]; rfl, hbl⟩

set_option maxHeartbeats 400000 in
theorem Gcd_any (a b : ByteArray) (w : World) (ha : a.size ≤ maxLen) (hb : b.size ≤ maxLen) :
    Calls Try.prog 60 #[.string a, .string b] w fun e w' => e = .returned (.tuple #[.string (gcdF a b).1, .int .i64 (gcdF a b).2]) ∧ Below w.heap.size w w' := by
  go_enter Try.func60, Try.ntmps60
  go_wp2_with fail
  refine (check2 a b w ha hb).mono ?_
  rintro e w' ⟨rfl, rfl⟩
  have hbl : Below w.heap.size w (w.alloc (.cells #[.string a, .string b] 9)) := (Below.refl _ _).alloc (Nat.le_refl _) _
  generalize w.alloc (.cells #[.string a, .string b] 9) = w1 at *
  by_cases h : chkN [a, b] = 0
  · have E : Hid (gcdF a b = (encS (Nat.gcd (nv a) (nv b)), 0)) := if_pos h
    obtain ⟨n1, n2, s1, s2⟩ := chk2_zero h
    rw [h]
    clear h ha hb
    have l1 := digs_of_size s1
    have l2 := digs_of_size s2
    go_wp2_with fail
    refine (words_nat a _ (by omega) n1).mono ?_
    rintro e w2 ⟨v, rfl, hv, hb2⟩
    go_wp2_with fail
    refine (words_nat b _ (by omega) n2).mono ?_
    rintro e w3 ⟨u, rfl, hu, hb3⟩
    have hbl3 := hbl.trans ((hb2.mono hbl.size).trans (hb3.mono (Nat.le_trans hbl.size hb2.size)))
    have hv3 := (hv.below hb3).mono (Nat.zero_le _)
    have hu3 := hu.mono (Nat.zero_le _)
    clear hv hu hb2 hb3 hbl
    go_wp2_with fail
    go_loopg [7, 8] (nv b) (fun m x y wr => ∃ n : Nat, OwnU wr 0 x (digs n) ∧ OwnU wr 0 y (digs m) ∧ Nat.gcd n m = Nat.gcd (nv a) (nv b) ∧ (digs n).length ≤ 64 ∧ (digs m).length ≤ 64 ∧ Below w.heap.size w wr)
    case atStart => exact ⟨nv a, hv3, hu3, rfl, l1, l2, hbl3⟩
    case round =>
      clear hv3 hu3 hbl3
      obtain ⟨n, hv, hu, hg, hn, hm, hbl⟩ := hrel
      obtain ⟨oa, cap, rfl, hcap, hcm⟩ := hv.shp
      obtain ⟨ob, cap', rfl, hcap', hcm'⟩ := hu.shp
      have HG := Lib.hid hg
      have HV := Lib.hid hv
      have HU := Lib.hid hu
      clear hg hv hu
      by_cases h0 : 0 < gk
      · have hl0 : 0 < (digs gk).length := List.length_pos_iff.2 (fun h => by have := (digs_eq_nil gk).1 h; omega)
        go_wp2_with fail
        refine (divide_any 0 0 _ _ n gk _ HV.out HU.out h0 (by omega) (by omega)).mono ?_
        rintro e w4 ⟨v1, v2, rfl, hq, hr, hb4⟩
        have hu4 := HU.out.below hb4
        have hb5 := hbl.trans (hb4.mono hbl.size)
        have hr4 := hr.mono (Nat.zero_le _)
        clear hq hr hb4
        go_wp2_with fail
        go_roundg (n % gk)
        case measure => exact Nat.mod_lt _ h0
        case rel => exact ⟨gk, hu4, hr4, by rw [← HG.out, Nat.gcd_comm n gk, Nat.gcd_rec gk n, Nat.gcd_comm], hm, Nat.le_trans (digs_len_mono (Nat.mod_le _ _)) hn, hb5⟩
      · obtain rfl : gk = 0 := by omega
        have hl0 : (digs 0).length = 0 := rfl
        go_wp2_with fail
        refine (text_any 0 _ _ _ HV.out (small_digs _) (by omega)).mono ?_
        rintro e w5 ⟨rfl, hb5⟩
        go_wp2_with fail
        go_ret2
        exact ⟨by rw [E.out, dv_digs, ← HG.out, Nat.gcd_zero_right]; rfl, hbl.trans (hb5.mono hbl.size)⟩
  · have E : Hid (gcdF a b = (bE, chkN [a, b])) := if_neg h
    have h2 : (chkN [a, b] != 0) = true := by simpa using h
    go_wp2_with fail
    go_ret2
    exact ⟨by rw [E.out]; rfl, hbl⟩

end Go.Proofs.Ytmcejefeloljiaa

/-
  The walks of package naturals: Of, Int, Add.
-/
namespace Go.Proofs.Ytmcejefeloljiaa
set_option linter.unusedVariables false
set_option linter.unusedSimpArgs false
open Go.RowKit Nm

theorem ownU_lit2 (w : World) (x y : Nat) : OwnU (w.alloc (.cells #[.int .u64 (x : Int), .int .u64 (y : Int)] 159)) w.heap.size (.slice (some ⟨w.heap.size, 0, none⟩) 2 2) [x, y] := by
  have h := World.ownsRow_lit (base := w.heap.size) (e := 159) (size := 1) w #[.int .u64 (x : Int), .int .u64 (y : Int)] 2 (Nat.le_refl _) (by unfold maxLen; omega) rfl
  exact h

set_option maxHeartbeats 400000 in
theorem Of_any (n : Int) (w : World) (h1 : -9223372036854775808 ≤ n) (h2 : n ≤ 9223372036854775807) :
    Calls Try.prog 102 #[.int .i64 n] w fun e w' => e = .returned (.tuple #[.string (ofF n).1, .int .i64 (ofF n).2]) ∧ Below w.heap.size w w' := by
  by_cases hn : n < 0
  · have E : Hid (ofF n = (bE, 1)) := if_pos hn
    go_enter Try.func102, Try.ntmps102
    go_wp2_with fail
    go_ret2
    exact ⟨by rw [E.out]; rfl, Below.refl _ _⟩
  · have E : Hid (ofF n = (encS n.toNat, 0)) := if_neg hn
    obtain ⟨m, rfl⟩ := Int.eq_ofNat_of_zero_le (by omega : 0 ≤ n)
    clear hn h1
    go_enter Try.func102, Try.ntmps102
    go_wp2_with fail
    rw [mask32 m (by omega), show (m : Int) / 4294967296 = ((m / 4294967296 : Nat) : Int) by omega]
    have hsm : small [m % 4294967296, m / 4294967296] := by
      intro x hx
      simp at hx
      unfold B32; omega
    refine (text_any _ _ _ _ (ownU_lit2 w _ _) hsm (by simp)).mono ?_
    rintro e w1 ⟨rfl, hb⟩
    go_wp2_with fail
    go_ret2
    refine ⟨?_, (((Below.refl _ w).alloc (Nat.le_refl _) _)).trans (hb.mono (by simp))⟩
    have hd : dv [m % 4294967296, m / 4294967296] = m := by simp only [dv, B32]; omega
    rw [E.out, hd]; rfl

theorem or_byte (x c : Nat) (hc : c < 256) : x * 256 ||| c = x * 256 + c := by
  have h := Nat.shiftLeft_add_eq_or_of_lt (show c < 2 ^ 8 by omega) x
  rw [Nat.shiftLeft_eq] at h
  exact h.symm

set_option maxHeartbeats 400000 in
theorem Int_any (s : ByteArray) (w : World) (hs : s.size ≤ maxLen) :
    Calls Try.prog 54 #[.string s] w fun e w' => e = .returned (.tuple #[.int .i64 (intF s).1, .bool (intF s).2]) ∧ w = w' := by
  unfold maxLen at hs
  by_cases hn : isN s = true
  · by_cases h8 : s.size ≤ 8
    · have HN := Lib.hid hn; clear hn
      go_enter Try.func54, Try.ntmps54
      go_wp2_with fail
      refine (natural_any s w).mono ?_
      rintro e w' ⟨rfl, rfl⟩
      rw [HN.out]
      go_wp2_with fail
      go_loop [4, 16] (fun u i => ∃ k : Nat, k ≤ s.size ∧ i = .int .i64 k ∧ u = .int .u64 ((val (s.data.toList.take k) : Nat) : Int)) (fun _ i => s.size - (intOf i).toNat)
      case atStart => exact ⟨0, Nat.zero_le _, rfl, rfl⟩
      case round =>
        obtain ⟨k, hk, rfl, rfl⟩ := hrel
        have hb := val_lt_of_length (s.data.toList.take k) k (by rw [List.length_take]; omega)
        by_cases hlt : k < s.size
        · have hu : val (s.data.toList.take k) < 72057594037927936 := Nat.lt_of_lt_of_le hb (by
            have := Nat.pow_le_pow_right (show 0 < 256 by omega) (show k ≤ 7 by omega)
            simpa using this)
          have hs1 := take_snoc s k hlt
          have hv : val (s.data.toList.take (k + 1)) = val (s.data.toList.take k) * 256 + s[k].toNat := by rw [hs1, val_snoc]
          have HV := Lib.hid hv
          clear hs1 hv hb
          generalize val (s.data.toList.take k) = x at *
          go_wp2_with fail
          go_round
          case rel =>
            have hb := s[k].toNat_lt
            refine ⟨k + 1, by omega, by go_num, ?_⟩
            rw [wrapU _ (by omega), show ((x : Int) * 256) = ((x * 256 : Nat) : Int) by omega, orU _ _ (by omega) (by omega), HV.out, or_byte x _ (by omega)]
          case measure => simp [intOf]; omega
        · obtain rfl : k = s.size := by omega
          have hu : val (s.data.toList.take s.size) = nv s := by rw [List.take_of_length_le (by rw [sdata_length]; exact Nat.le_refl _)]; rfl
          rw [hu] at hb ⊢
          have hu2 : nv s < 18446744073709551616 := Nat.lt_of_lt_of_le hb (by
            have := Nat.pow_le_pow_right (show 0 < 256 by omega) h8
            simpa using this)
          clear hb hu
          by_cases hbig : nv s < 9223372036854775808
          · have E : Hid (intF s = ((nv s : Int), true)) := if_pos ⟨HN.out, h8, hbig⟩
            generalize nv s = x at *
            go_wp2_with fail
            go_ret2
            exact ⟨by rw [E.out]; rfl, rfl⟩
          · have E : Hid (intF s = (0, false)) := if_neg (by rintro ⟨_, _, h⟩; exact hbig h)
            generalize nv s = x at *
            go_wp2_with fail
            go_ret2
            exact ⟨by rw [E.out]; rfl, rfl⟩
    · have E : Hid (intF s = (0, false)) := if_neg (by rintro ⟨_, h, _⟩; exact h8 h)
      have HN := Lib.hid hn; clear hn
      go_enter Try.func54, Try.ntmps54
      go_wp2_with fail
      refine (natural_any s w).mono ?_
      rintro e w' ⟨rfl, rfl⟩
      rw [HN.out]
      go_wp2_with fail
      go_ret2
      exact ⟨by rw [E.out]; rfl, rfl⟩
  · have E : Hid (intF s = (0, false)) := if_neg (by rintro ⟨h, _⟩; exact hn h)
    have HN := Lib.hid hn; clear hn
    go_enter Try.func54, Try.ntmps54
    go_wp2_with fail
    refine (natural_any s w).mono ?_
    rintro e w' ⟨rfl, rfl⟩
    rw [Bool.eq_false_iff.2 HN.out]
    go_wp2_with fail
    go_ret2
    exact ⟨by rw [E.out]; rfl, rfl⟩

end Go.Proofs.Ytmcejefeloljiaa

/-
  The walks of package naturals: Add.
-/
namespace Go.Proofs.Ytmcejefeloljiaa
set_option linter.unusedVariables false
set_option linter.unusedSimpArgs false
open Go.RowKit Nm

/-- the relation of the loop of 'Add' -/
def addRel (w : World) (B : Nat) (X Y : List Nat) (k : Nat) (c l : Value) (wr : World) : Prop :=
  ∃ (c' : Nat) (R : List Nat), c' ≤ 1 ∧ c = .int .u64 (c' : Int) ∧ R.length = k ∧ small R ∧ dv R + c' * B32 ^ k = dv (X.take k) + dv (Y.take k) ∧ OwnU wr B l R ∧ Below B w wr ∧ (max X.length Y.length < k → c' = 0)

theorem add_rel {w wr w1 : World} {B k c x y : Nat} {X Y R : List Nat} {l l' : Value} {zc : Int} {E : TypeId} {v : Value} (hR : R.length = k) (hs : small R) (hc : c ≤ 1) (hxs : x < 4294967296) (hys : y < 4294967296)
    (hI : dv R + c * B32 ^ k = dv (X.take k) + dv (Y.take k)) (hown : OwnU w1 B l' (R ++ [(c + x + y) % 4294967296]))
    (hB : B ≤ wr.heap.size) (hbl : Below B w wr) (hol : OwnU wr B l R) (hgr : (wr.alloc (.cells #[v] E)).grownBy w1 l.ownBlock)
    (hx : X.getD k 0 = x) (hy : Y.getD k 0 = y) (hzc : zc = (((c + x + y) / 4294967296 : Nat) : Int)) : addRel w B X Y (k + 1) (.int .u64 zc) l' w1 := by
  subst hzc
  have e : B32 = 4294967296 := rfl
  refine ⟨(c + x + y) / 4294967296, R ++ [(c + x + y) % 4294967296], by omega, rfl, by simp [hR], small_snoc hs (Nat.mod_lt _ (by omega)), ?_, hown, grown_below hbl hol hgr hB, fun h => ?_⟩
  · have h := add_step R X Y k c hR hI
    rw [hx, hy, e] at h
    rw [e]; exact h
  · have hx0 : x = 0 := by rw [← hx]; simp [List.getD, List.getElem?_eq_none (by omega : X.length ≤ k)]
    have hy0 : y = 0 := by rw [← hy]; simp [List.getD, List.getElem?_eq_none (by omega : Y.length ≤ k)]
    omega

set_option maxHeartbeats 1000000 in
theorem add_loop (a b : ByteArray) (w : World) (ha : a.size ≤ maxLen) (hb : b.size ≤ maxLen) :
    Calls Try.prog 148 #[.string a, .string b] w fun e w' => e = .returned (.tuple #[.string (addF a b).1, .int .i64 (addF a b).2]) ∧ Below w.heap.size w w' := by
  go_enter Try.func148, Try.ntmps148
  go_wp2_with fail
  refine (check2 a b w ha hb).mono ?_
  rintro e w' ⟨rfl, rfl⟩
  have hbl : Below w.heap.size w (w.alloc (.cells #[.string a, .string b] 9)) := (Below.refl _ _).alloc (Nat.le_refl _) _
  generalize w.alloc (.cells #[.string a, .string b] 9) = w1 at *
  by_cases h : chkN [a, b] = 0
  · have E : Hid (addF a b = shortN (nv a + nv b)) := if_pos h
    obtain ⟨n1, n2, s1, s2⟩ := chk2_zero h
    rw [h]
    clear h ha hb
    have l1 := digs_of_size s1
    have l2 := digs_of_size s2
    go_wp2_with fail
    refine (words_nat a _ (by omega) n1).mono ?_
    rintro e w2 ⟨v, rfl, hv, hb2⟩
    go_wp2_with fail
    refine (words_nat b _ (by omega) n2).mono ?_
    rintro e w3 ⟨u, rfl, hu, hb3⟩
    have hbl3 := hbl.trans ((hb2.mono hbl.size).trans (hb3.mono (Nat.le_trans hbl.size hb2.size)))
    obtain ⟨oa, cap, rfl, hcap, hcm⟩ := hv.shp
    obtain ⟨ob, cap', rfl, hcap', hcm'⟩ := hu.shp
    have HV := Lib.hid (hv.below hb3)
    have HU := Lib.hid hu
    have HB3 := Lib.hid hbl3
    clear hv hu hb2 hb3 hbl hbl3
    go_wp2_with fail
    go_loopw [9, 10, 11] (fun l c i wr => ∃ k : Nat, k ≤ max (digs (nv a)).length (digs (nv b)).length + 1 ∧ i = .int .i64 k ∧ addRel w3 w3.heap.size (digs (nv a)) (digs (nv b)) k c l wr) (fun _ _ i _ => max (digs (nv a)).length (digs (nv b)).length + 2 - (intOf i).toNat)
    case atStart => exact ⟨0, Nat.zero_le _, rfl, 0, [], by omega, rfl, rfl, (fun x hx => by cases hx), by simp [dv], OwnN.nil _ _ _ _, Below.refl _ _, fun h => by omega⟩
    case round =>
      obtain ⟨k, hk, rfl, c, R, hc, rfl, hR, hsR, hI, hown, hbl, hlast⟩ := hrel
      obtain ⟨ol, cl, hlv, hcl, hclm⟩ := hown.shp
      rw [hR] at hlv hcl
      subst hlv
      have HR := Lib.hid hR
      have HI := Lib.hid hI
      have HL := Lib.hid hlast
      clear hR hI hlast
      have hxs := getD_lt (small_digs (nv a)) k
      have hys := getD_lt (small_digs (nv b)) k
      generalize hgx : (digs (nv a)).getD k 0 = x at hxs
      generalize hgy : (digs (nv b)).getD k 0 = y at hys
      unfold B32 at hxs hys
      have hx0 : (digs (nv a)).length ≤ k → x = 0 := fun h => by rw [← hgx]; simp [List.getD, List.getElem?_eq_none h]
      have hy0 : (digs (nv b)).length ≤ k → y = 0 := fun h => by rw [← hgy]; simp [List.getD, List.getElem?_eq_none h]
      have HX0 := Lib.hid hx0
      have HY0 := Lib.hid hy0
      have HGX := Lib.hid hgx
      have HGY := Lib.hid hgy
      clear hx0 hy0 hgx hgy
      by_cases hkx : k < (digs (nv a)).length
      · obtain ⟨g, rfl, hg1, hg2⟩ := OwnN.at HV.out (by omega)
        have hcx := (OwnN.below HV.out hbl).cell k hkx
        have hgx2 : (digs (nv a))[k] = x := by rw [← HGX.out]; simp [List.getD, hkx]
        rw [hgx2] at hcx
        clear hgx2
        by_cases hky : k < (digs (nv b)).length
        · obtain ⟨g', rfl, hg3, hg4⟩ := OwnN.at HU.out (by omega)
          have hcy := (OwnN.below HU.out hbl).cell k hky
          have hgy2 : (digs (nv b))[k] = y := by rw [← HGY.out]; simp [List.getD, hky]
          rw [hgy2] at hcy
          clear hgy2
          go_wp2_with (at_builtin; refine append1 wr rfl _ _ 153 rfl w3.heap.size 159 .u64 8 info_u64 Try.underlying153 _ R hown rfl _ _ ((c + x + y) % 4294967296) (mask32 (c + x + y) (by omega)) rfl (by rw [HR.out]; omega) (by omega) hbl.size ?_)
          intro l' w4 hown' hgrow
          have HRL := add_rel (x := x) (y := y) (zc := ((((c + x + y) / 4294967296 : Nat)) : Int)) HR.out hsR hc (by omega) (by omega) HI.out hown' hbl.size hbl hown hgrow HGX.out HGY.out rfl
          have HRL2 := Lib.hid HRL
          clear HRL hown' hgrow hown hbl hcx hcy
          go_wp2_with fail
          go_roundw
          case rel => exact ⟨k + 1, by omega, by go_num, by have := HRL2.out; rw [show (((c + x + y) / 4294967296 : Nat) : Int) = ((c : Int) + x + y) / 4294967296 from by omega] at this; exact this⟩
          case measure => simp [intOf]; omega
        · go_wp2_with (at_builtin; refine append1 wr rfl _ _ 153 rfl w3.heap.size 159 .u64 8 info_u64 Try.underlying153 _ R hown rfl _ _ ((c + x) % 4294967296) (mask32 (c + x) (by omega)) rfl (by rw [HR.out]; omega) (by omega) hbl.size ?_)
          intro l' w4 hown' hgrow
          have HRL := add_rel (x := x) (y := 0) (zc := ((((c + x) / 4294967296 : Nat)) : Int)) HR.out hsR hc (by omega) (by omega) HI.out hown' hbl.size hbl hown hgrow HGX.out (HGY.out.trans (HY0.out (by omega))) rfl
          have HRL2 := Lib.hid HRL
          clear HRL hown' hgrow hown hbl hcx
          go_wp2_with fail
          go_roundw
          case rel => exact ⟨k + 1, by omega, by go_num, by have := HRL2.out; rw [show (((c + x) / 4294967296 : Nat) : Int) = ((c : Int) + x) / 4294967296 from by omega] at this; exact this⟩
          case measure => simp [intOf]; omega
      · by_cases hky : k < (digs (nv b)).length
        · obtain ⟨g', rfl, hg3, hg4⟩ := OwnN.at HU.out (by omega)
          have hcy := (OwnN.below HU.out hbl).cell k hky
          have hgy2 : (digs (nv b))[k] = y := by rw [← HGY.out]; simp [List.getD, hky]
          rw [hgy2] at hcy
          clear hgy2
          go_wp2_with (at_builtin; refine append1 wr rfl _ _ 153 rfl w3.heap.size 159 .u64 8 info_u64 Try.underlying153 _ R hown rfl _ _ ((c + y) % 4294967296) (mask32 (c + y) (by omega)) rfl (by rw [HR.out]; omega) (by omega) hbl.size ?_)
          intro l' w4 hown' hgrow
          have HRL := add_rel (x := 0) (y := y) (zc := ((((c + y) / 4294967296 : Nat)) : Int)) HR.out hsR hc (by omega) (by omega) HI.out hown' hbl.size hbl hown hgrow (HGX.out.trans (HX0.out (by omega))) HGY.out rfl
          have HRL2 := Lib.hid HRL
          clear HRL hown' hgrow hown hbl hcy
          go_wp2_with fail
          go_roundw
          case rel => exact ⟨k + 1, by omega, by go_num, by have := HRL2.out; rw [show (((c + y) / 4294967296 : Nat) : Int) = ((c : Int) + y) / 4294967296 from by omega] at this; exact this⟩
          case measure => simp [intOf]; omega
        · by_cases hc0 : 0 < c
          · have hk2 : ¬ max (digs (nv a)).length (digs (nv b)).length < k := fun h => by have := HL.out h; omega
            go_wp2_with (at_builtin; refine append1 wr rfl _ _ 153 rfl w3.heap.size 159 .u64 8 info_u64 Try.underlying153 _ R hown rfl _ _ ((c) % 4294967296) (mask32 (c) (by omega)) rfl (by rw [HR.out]; omega) (by omega) hbl.size ?_)
            intro l' w4 hown' hgrow
            have HRL := add_rel (x := 0) (y := 0) (zc := ((((c) / 4294967296 : Nat)) : Int)) HR.out hsR hc (by omega) (by omega) HI.out hown' hbl.size hbl hown hgrow (HGX.out.trans (HX0.out (by omega))) (HGY.out.trans (HY0.out (by omega))) rfl
            have HRL2 := Lib.hid HRL
            clear HRL hown' hgrow hown hbl
            go_wp2_with fail
            go_roundw
            case rel => exact ⟨k + 1, by omega, by go_num, by have := HRL2.out; rw [show (((c) / 4294967296 : Nat) : Int) = ((c : Int)) / 4294967296 from by omega] at this; exact this⟩
            case measure => simp [intOf]; omega
          · obtain rfl : c = 0 := by omega
            have hd : dv R = nv a + nv b := by
              have h := HI.out
              rw [List.take_of_length_le (by omega), List.take_of_length_le (by omega), dv_digs, dv_digs] at h
              omega
            have HD := Lib.hid hd
            clear hd
            go_wp2_with fail
            refine (short_any _ _ R wr hown hsR (by rw [HR.out]; omega)).mono ?_
            rintro e w5 ⟨rfl, hb5⟩
            go_wp2_with fail
            go_ret2
            have hbw : Below w.heap.size w wr := HB3.out.trans (hbl.mono HB3.out.size)
            exact ⟨by rw [E.out, ← HD.out]; rfl, hbw.trans (hb5.mono hbw.size)⟩
  · have E : Hid (addF a b = (bE, chkN [a, b])) := if_neg h
    have h2 : (chkN [a, b] != 0) = true := by simpa using h
    go_wp2_with fail
    go_ret2
    exact ⟨by rw [E.out]; rfl, hbl⟩

end Go.Proofs.Ytmcejefeloljiaa

/-
  The walks of package naturals: Mul.
-/
namespace Go.Proofs.Ytmcejefeloljiaa
set_option linter.unusedVariables false
set_option linter.unusedSimpArgs false
open Go.RowKit Nm

/-- between two rounds of the outer loop -/
def mulOut (w : World) (B : Nat) (X Y : List Nat) (g n i : Nat) (wr : World) : Prop :=
  ∃ L : List Nat, L.length = n ∧ small L ∧ dv L = dv (X.take i) * dv Y ∧ OwnU wr B (.slice (some ⟨g, 0, none⟩) n n) L ∧ Below B w wr
/-- between two rounds of the inner loop -/
def mulIn (w : World) (B : Nat) (X Y : List Nat) (g n i x j : Nat) (ov : Value) (wr : World) : Prop :=
  ∃ (o : Nat) (L : List Nat), o < B32 ∧ ov = .int .u64 (o : Int) ∧ L.length = n ∧ small L ∧ dv L + o * B32 ^ (i + j) = dv (X.take i) * dv Y + x * B32 ^ i * dv (Y.take j) ∧ OwnU wr B (.slice (some ⟨g, 0, none⟩) n n) L ∧ Below B w wr

theorem mul_rel {w wr : World} {B g n i x j o y l : Nat} {X Y L : List Nat} {z zo : Int} (hL : L.length = n) (hs : small L) (hp : i + j < n) (hj : j < Y.length) (ho : o < B32) (hx : x < B32) (hyb : y < B32) (hlb : l < B32)
    (hI : dv L + o * B32 ^ (i + j) = dv (X.take i) * dv Y + x * B32 ^ i * dv (Y.take j)) (hown : OwnU wr B (.slice (some ⟨g, 0, none⟩) n n) L) (hbl : Below B w wr) (hBg : B ≤ g)
    (hy : Y[j] = y) (hl : L[i + j]'(by omega) = l) (hz : z = (((o + (l + x * y)) % B32 : Nat) : Int)) (hzo : zo = (((o + (l + x * y)) / B32 : Nat) : Int)) :
    mulIn w B X Y g n i x (j + 1) (.int .u64 zo) (wr.setCell ⟨g, i + j, none⟩ (.int .u64 z)) := by
  subst hz hzo
  have hB : 0 < B32 := by unfold B32; omega
  refine ⟨(o + (l + x * y)) / B32, L.set (i + j) ((o + (l + x * y)) % B32), ?_, rfl, by simpa using hL, small_set hs (Nat.mod_lt _ hB), ?_, (OwnN.stored hown (i + j) _).1, hbl.setCell (p := ⟨g, i + j, none⟩) hBg _⟩
  · rw [Nat.div_lt_iff_lt_mul hB]
    have h1 : x * y ≤ (B32 - 1) * (B32 - 1) := Nat.mul_le_mul (by omega) (by omega)
    have h2 : (B32 - 1) * (B32 - 1) + 2 * (B32 - 1) < B32 * B32 := by unfold B32; omega
    omega
  · have h := mul_step L Y (dv (X.take i) * dv Y) i j x o (by omega) hj hI
    rw [hy, hl] at h
    exact h

set_option maxHeartbeats 1000000 in
theorem Mul_any (a b : ByteArray) (w : World) (ha : a.size ≤ maxLen) (hb : b.size ≤ maxLen) :
    Calls Try.prog 123 #[.string a, .string b] w fun e w' => e = .returned (.tuple #[.string (mulF a b).1, .int .i64 (mulF a b).2]) ∧ Below w.heap.size w w' := by
  go_enter Try.func123, Try.ntmps123
  go_wp2_with fail
  refine (check2 a b w ha hb).mono ?_
  rintro e w' ⟨rfl, rfl⟩
  have hbl : Below w.heap.size w (w.alloc (.cells #[.string a, .string b] 9)) := (Below.refl _ _).alloc (Nat.le_refl _) _
  generalize w.alloc (.cells #[.string a, .string b] 9) = w1 at *
  by_cases h : chkN [a, b] = 0
  · have E : Hid (mulF a b = shortN (nv a * nv b)) := if_pos h
    obtain ⟨n1, n2, s1, s2⟩ := chk2_zero h
    rw [h]
    clear h ha hb
    have l1 := digs_of_size s1
    have l2 := digs_of_size s2
    obtain ⟨i0, hi, hz0, hz1, hz2⟩ := info_parts info_u64
    go_wp2_with fail
    refine (words_nat a _ (by omega) n1).mono ?_
    rintro e w2 ⟨v, rfl, hv, hb2⟩
    go_wp2_with fail
    refine (words_nat b _ (by omega) n2).mono ?_
    rintro e w3 ⟨u, rfl, hu, hb3⟩
    have hbl3 := hbl.trans ((hb2.mono hbl.size).trans (hb3.mono (Nat.le_trans hbl.size hb2.size)))
    obtain ⟨oa, cap, rfl, hcap, hcm⟩ := hv.shp
    obtain ⟨ob, cap', rfl, hcap', hcm'⟩ := hu.shp
    have HV := Lib.hid (hv.below hb3)
    have HU := Lib.hid hu
    have HB3 := Lib.hid hbl3
    clear hv hu hb2 hb3 hbl hbl3
    go_wp2_with (at_make; refine wpList_make_full _ rfl _ _ 153 rfl w3.heap.size 159 i0 (.int .u64 0) 1 Try.underlying153 hi hz0 hz1 .i64 .i64 _ _ ((digs (nv a)).length + (digs (nv b)).length + 1) rfl rfl (by omega) (by omega) (by rw [hz2]; omega) (by unfold maxLen; omega) (Nat.le_refl _) ?_)
    intro w4 hown hgrow
    have hown4 := OwnN.made hown
    have hbl4 := below_grown (B := w3.heap.size) hgrow (Nat.le_refl _) (by simp)
    have HO4 := Lib.hid hown4
    have HB4 := Lib.hid hbl4
    clear hown hgrow hown4 hbl4 hi hz0 hz1 hz2
    go_wp2_with fail
    go_loopw [35] (fun i wr => ∃ k : Nat, k ≤ (digs (nv a)).length ∧ i = .int .i64 k ∧ mulOut w3 w3.heap.size (digs (nv a)) (digs (nv b)) w3.heap.size ((digs (nv a)).length + (digs (nv b)).length + 1) k wr) (fun i _ => (digs (nv a)).length - (intOf i).toNat)
    case atStart => exact ⟨0, Nat.zero_le _, rfl, _, by simp, (by rw [← dgl_zero]; exact small_dgl _ _), by rw [← dgl_zero, dv_dgl]; simp [dv], HO4.out, HB4.out⟩
    case round =>
      obtain ⟨i, hi, rfl, L, hL, hsL, hd, hown, hbl⟩ := hrel
      have HL := Lib.hid hL
      have HD := Lib.hid hd
      have HO := Lib.hid hown
      clear hL hd hown
      by_cases hlt : i < (digs (nv a)).length
      · obtain ⟨g, rfl, hg1, hg2⟩ := OwnN.at HV.out (by omega)
        have hcx := (OwnN.below HV.out hbl).cell i hlt
        have hxs := small_digs (nv a) (digs (nv a))[i] (List.getElem_mem _)
        generalize hgx : (digs (nv a))[i] = x at *
        have HGX := Lib.hid hgx
        clear hgx
        have hxs2 : x < 4294967296 := by unfold B32 at hxs; exact hxs
        obtain ⟨wo, rfl⟩ : ∃ wo, wo = wr := ⟨_, rfl⟩
        go_wp2_with fail
        go_loopw [12, 42] (fun o j wr => ∃ k : Nat, k ≤ (digs (nv b)).length ∧ j = .int .i64 k ∧ mulIn w3 w3.heap.size (digs (nv a)) (digs (nv b)) w3.heap.size ((digs (nv a)).length + (digs (nv b)).length + 1) i x k o wr) (fun _ j _ => (digs (nv b)).length - (intOf j).toNat)
        case atStart => exact ⟨0, Nat.zero_le _, rfl, 0, L, by unfold B32; omega, rfl, HL.out, hsL, by rw [HD.out]; simp [dv], HO.out, hbl⟩
        case round =>
          clear hbl
          obtain ⟨j, hj, rfl, o, L', ho, rfl, hL', hsL', hI', hown', hbl'⟩ := hrel
          have HL' := Lib.hid hL'
          have HI' := Lib.hid hI'
          clear hL' hI'
          have ho2 : o < 4294967296 := by unfold B32 at ho; exact ho
          by_cases hltj : j < (digs (nv b)).length
          · obtain ⟨g', rfl, hg3, hg4⟩ := OwnN.at HU.out (by omega)
            have hcy := (OwnN.below HU.out hbl').cell j hltj
            have hys := small_digs (nv b) (digs (nv b))[j] (List.getElem_mem _)
            generalize hgy : (digs (nv b))[j] = y at *
            have HGY := Lib.hid hgy
            clear hgy
            have hij : i + j < L'.length := by rw [HL'.out]; omega
            have hcl := hown'.cell (i + j) hij
            have hfl := hown'.frozen (i + j)
            have hls := hsL' L'[i + j] (List.getElem_mem _)
            generalize hgl : L'[i + j] = l at *
            have HGL := Lib.hid hgl
            clear hgl
            have hys2 : y < 4294967296 := by unfold B32 at hys; exact hys
            have hls2 : l < 4294967296 := by unfold B32 at hls; exact hls
            have hxy0 : x * y ≤ 4294967295 * 4294967295 := Nat.mul_le_mul (by omega) (by omega)
            have hxy1 : (0 : Int) ≤ (x : Int) * (y : Int) := by rw [← Int.natCast_mul]; omega
            have hxy2 : (x : Int) * (y : Int) ≤ 18446744065119617025 := by rw [← Int.natCast_mul]; omega
            have HXY := Lib.hid hxy0
            clear hxy0
            go_wp2_with fail
            go_roundw
            case rel =>
              have h0 := HXY.out
              have e1 : (o : Int) + ((l : Int) + (x : Int) * (y : Int)) = ((o + (l + x * y) : Nat) : Int) := by simp
              have hlt : o + (l + x * y) < 18446744073709551616 := by omega
              refine ⟨j + 1, by omega, by go_num, mul_rel HL'.out hsL' (by omega) hltj ho hxs hys hls HI'.out hown' hbl' (Nat.le_refl _) HGY.out HGL.out ?_ ?_⟩
              · rw [e1, mask32 _ hlt]; rfl
              · rw [e1]; generalize o + (l + x * y) = t; unfold B32; omega
            case measure => simp [intOf]; omega
          · obtain rfl : j = (digs (nv b)).length := by omega
            have hij : i + (digs (nv b)).length < L'.length := by rw [HL'.out]; omega
            have hend := HI'.out
            rw [List.take_length, ← HGX.out] at hend
            have hend2 := mul_end L' (digs (nv a)) (digs (nv b)) i o (small_digs _) (small_digs _) hlt hij hend
            have hcl := hown'.cell (i + (digs (nv b)).length) hij
            have hfl := hown'.frozen (i + (digs (nv b)).length)
            have hst := hown'.stored (i + (digs (nv b)).length) (L'[i + (digs (nv b)).length] + o)
            generalize hgl : L'[i + (digs (nv b)).length] = l at *
            have hlo : l + o < 4294967296 := by have := hend2.2; unfold B32 at this; exact this
            have HE := Lib.hid hend2
            have HS := Lib.hid hst
            clear hgl hend hend2 hst
            go_wp2_with fail
            go_roundw
            case rel =>
              refine ⟨i + 1, by omega, by go_num, _, by rw [List.length_set]; exact HL'.out, small_set hsL' HE.out.2, HE.out.1, ?_, hbl'.setCell (p := ⟨w3.heap.size, i + (digs (nv b)).length, none⟩) (Nat.le_refl _) _⟩
              have h := HS.out.1
              rw [show ((l + o : Nat) : Int) = (l : Int) + o by omega] at h
              exact h
            case measure => simp [intOf]; omega
      · obtain rfl : i = (digs (nv a)).length := by omega
        have hd := HD.out
        rw [List.take_length, dv_digs, dv_digs] at hd
        have HD2 := Lib.hid hd
        clear hd
        go_wp2_with fail
        refine (short_any _ _ L wr (by have h := HO.out; rw [← HL.out] at h; rw [← HL.out]; exact h) hsL (by rw [HL.out]; omega)).mono ?_
        rintro e w5 ⟨rfl, hb5⟩
        go_wp2_with fail
        go_ret2
        have hbw : Below w.heap.size w wr := HB3.out.trans (hbl.mono HB3.out.size)
        exact ⟨by rw [E.out, ← HD2.out]; rfl, hbw.trans (hb5.mono hbw.size)⟩
  · have E : Hid (mulF a b = (bE, chkN [a, b])) := if_neg h
    have h2 : (chkN [a, b] != 0) = true := by simpa using h
    go_wp2_with fail
    go_ret2
    exact ⟨by rw [E.out]; rfl, hbl⟩

end Go.Proofs.Ytmcejefeloljiaa

/-
  The contracts of package naturals, as a table for the symbolic executor.
-/
namespace Go.Proofs.Ytmcejefeloljiaa
open Go.RowKit Nm Go.SX

/-- a text by its bytes -/
def bs (l : List UInt8) : ByteArray := ⟨⟨l⟩⟩
/-- a text that memory holds -/
def szB (a : ByteArray) : Bool := decide (a.size ≤ maxLen)
theorem szB_iff {a : ByteArray} : szB a = true ↔ a.size ≤ maxLen := by simp [szB]
def inI (n : Int) : Bool := decide (-9223372036854775808 ≤ n) && decide (n ≤ 9223372036854775807)
def two (f : ByteArray → ByteArray → ByteArray × Int) (vs : List Value) : R3 OutE :=
  match vs with
  | [.string a, .string b] => .need (szB a && szB b) (.ok (.ret (.tup [.val (.string (f a b).1), .val (.int .i64 (f a b).2)])))
  | _ => .no
def natCon : ECon := fun f =>
  match f with
  | 148 => some (two addF)
  | 123 => some (two mulF)
  | 165 => some (two subF)
  | 60 => some (two gcdF)
  | 124 => some fun vs => match vs with
    | [.string a, .string b] => .need (szB a && szB b) (.ok (.ret (.tup [.val (.int .i64 (cmpF a b).1), .val (.int .i64 (cmpF a b).2)])))
    | _ => .no
  | 53 => some fun vs => match vs with
    | [.string a, .string b] => .need (szB a && szB b) (.ok (.ret (.tup [.val (.string (divF a b).1), .val (.string (divF a b).2.1), .val (.int .i64 (divF a b).2.2)])))
    | _ => .no
  | 59 => some fun vs => match vs with
    | [.string a] => .need (szB a) (.ok (.ret (.val (.int .i64 (chkN [a])))))
    | _ => .no
  | 102 => some fun vs => match vs with
    | [.int .i64 n] => .need (inI n) (.ok (.ret (.tup [.val (.string (ofF n).1), .val (.int .i64 (ofF n).2)])))
    | _ => .no
  | 54 => some fun vs => match vs with
    | [.string a] => .need (szB a) (.ok (.ret (.tup [.val (.int .i64 (intF a).1), .val (.bool (intF a).2)])))
    | _ => .no
  | _ => none
theorem pOk : POk Try.prog := by
  refine ⟨?_, by kernel_rfl⟩
  have h : Try.prog.funcs.toList.all (fun fn => fn.body.isNone || !(fn.name == "runtime.NumGoroutine")) = true := by kernel_rfl
  intro f fn hf hb
  have h1 := List.all_eq_true.1 h fn (by rw [Array.mem_toList_iff]; exact Array.mem_of_getElem? hf)
  have h2 : fn.body.isNone = false := by cases hx : fn.body <;> simp_all
  rw [h2] at h1
  simpa using h1
theorem two_ok {f : FuncId} {g : ByteArray → ByteArray → ByteArray × Int} (h : ∀ a b w, a.size ≤ maxLen → b.size ≤ maxLen → Calls Try.prog f #[.string a, .string b] w fun e w' => e = .returned (.tuple #[.string (g a b).1, .int .i64 (g a b).2]) ∧ Below w.heap.size w w')
    (vs : List Value) (e : OutE) (he : (two g vs).res = some e) : ∃ e0, e.end = some e0 ∧ Plain Try.prog f vs e0 := by
  unfold two at he
  split at he
  · obtain ⟨h1, h2⟩ := R3.need_some he
    cases h2
    rw [Bool.and_eq_true, szB_iff, szB_iff] at h1
    exact ⟨_, rfl, fun w => h _ _ w h1.1 h1.2⟩
  · cases he
theorem natCon_ok : EConOk Try.prog natCon := by
  intro f h hf
  unfold natCon at hf
  split at hf <;> first | (cases hf; done) | skip
  · cases hf; exact ⟨⟨_, Try.func148, rfl⟩, two_ok fun a b w ha hb => add_loop a b w ha hb⟩
  · cases hf; exact ⟨⟨_, Try.func123, rfl⟩, two_ok fun a b w ha hb => Mul_any a b w ha hb⟩
  · cases hf; exact ⟨⟨_, Try.func165, rfl⟩, two_ok fun a b w ha hb => Sub_any a b w ha hb⟩
  · cases hf; exact ⟨⟨_, Try.func60, rfl⟩, two_ok fun a b w ha hb => Gcd_any a b w ha hb⟩
  · cases hf
    refine ⟨⟨_, Try.func124, rfl⟩, fun vs e he => ?_⟩
    simp only at he
    split at he
    · obtain ⟨h1, h2⟩ := R3.need_some he
      cases h2
      rw [Bool.and_eq_true, szB_iff, szB_iff] at h1
      exact ⟨_, rfl, fun w => Compare_any _ _ w h1.1 h1.2⟩
    · cases he
  · cases hf
    refine ⟨⟨_, Try.func53, rfl⟩, fun vs e he => ?_⟩
    simp only at he
    split at he
    · obtain ⟨h1, h2⟩ := R3.need_some he
      cases h2
      rw [Bool.and_eq_true, szB_iff, szB_iff] at h1
      exact ⟨_, rfl, fun w => Div_any _ _ w h1.1 h1.2⟩
    · cases he
  · cases hf
    refine ⟨⟨_, Try.func59, rfl⟩, fun vs e he => ?_⟩
    simp only at he
    split at he
    · obtain ⟨h1, h2⟩ := R3.need_some he
      cases h2
      exact ⟨_, rfl, fun w => Check_any _ w (szB_iff.1 h1)⟩
    · cases he
  · cases hf
    refine ⟨⟨_, Try.func102, rfl⟩, fun vs e he => ?_⟩
    simp only at he
    split at he
    · obtain ⟨h1, h2⟩ := R3.need_some he
      cases h2
      unfold inI at h1
      rw [Bool.and_eq_true] at h1
      exact ⟨_, rfl, fun w => Of_any _ w (of_decide_eq_true h1.1) (of_decide_eq_true h1.2)⟩
    · cases he
  · cases hf
    refine ⟨⟨_, Try.func54, rfl⟩, fun vs e he => ?_⟩
    simp only at he
    split at he
    · obtain ⟨h1, h2⟩ := R3.need_some he
      cases h2
      exact ⟨_, rfl, fun w => (Int_any _ w (szB_iff.1 h1)).mono fun e' w' h => ⟨h.1, by rw [← h.2]; exact Below.refl _ _⟩⟩
    · cases he

end Go.Proofs.Ytmcejefeloljiaa

/-
  Package ratios: what its functions come to, and the table of the inner ones.
-/
namespace Go.Proofs.Ytmcejefeloljiaa
open Go.RowKit Nm Go.SX

def rtV (r : Rt) : Value := .agg #[.bool r.neg, .string r.n, .string r.d]
def sgV (r : Sg) : Value := .agg #[.bool r.neg, .string r.n]
def panS (e : Int) : OutE := .pan (.val (.iface 174 (.agg #[.int .i64 e])))
def optS (o : Option ByteArray) : R3 OutE := .br o.isSome (.ok (.ret (.val (.string (o.getD ⟨#[]⟩))))) (.ok (panS 2))
def optG (o : Option Sg) : R3 OutE := .br o.isSome (.ok (.ret (.val (.agg #[.bool (o.getD ⟨false, ⟨#[]⟩⟩).neg, .string (o.getD ⟨false, ⟨#[]⟩⟩).n])))) (.ok (panS 2))
def zR : Rt := ⟨false, ⟨#[]⟩, ⟨#[]⟩⟩
def optR (o : Option Rt) : R3 OutE := .br o.isSome (.ok (.ret (.val (.agg #[.bool (o.getD zR).neg, .string (o.getD zR).n, .string (o.getD zR).d])))) (.ok (panS 2))
def ratCon : ECon := fun f =>
  match f with
  | 22 => some fun vs => match vs with
    | [.agg ⟨[.bool n, .string a, .string b]⟩] => .need (szB a && szB b) (.ok (.ret (.val (.int .i64 (checkR ⟨n, a, b⟩)))))
    | _ => .no
  | 70 => some fun vs => match vs with
    | [.string a, .string b] => .need (szB a && szB b) (optS (timesO a b))
    | _ => .no
  | 103 => some fun vs => match vs with
    | [.string a, .string b] => .need (szB a && szB b) (optS (plusO a b))
    | _ => .no
  | 155 => some fun vs => match vs with
    | [.agg ⟨[.bool n, .string a]⟩, .agg ⟨[.bool m, .string b]⟩] => .need (szB a && szB b) (optG (saddO ⟨n, a⟩ ⟨m, b⟩))
    | _ => .no
  | 50 => some fun vs => match vs with
    | [.agg ⟨[.bool n, .string a]⟩, .string d] => .need (szB a && szB d) (optR (overO ⟨n, a⟩ d))
    | _ => .no
  | 49 => some fun vs => match vs with
    | [.int .i64 n] => .need (inI n) (.ok (.ret (.val (.string (encS n.natAbs)))))
    | _ => .no
  | f => natCon f
/-- end of a call that hands back a text, or fails -/
def endS (o : Option ByteArray) : Ending := match o with | some s => .returned (.string s) | none => .panicked [{ v := .iface 174 (.agg #[.int .i64 2]), recovered := false }]

end Go.Proofs.Ytmcejefeloljiaa

/-
  What the symbolic executor shows of the inner functions of package ratios.
-/
namespace Go.Proofs.Ytmcejefeloljiaa
open Go.RowKit Nm Go.SX

set_option maxRecDepth 100000 in
theorem T_check (n : Bool) (a b : ByteArray) : sxEnd Try.prog Rd.no natCon.p 40 22 [.agg #[.bool n, .string a, .string b]] =
    bif szB a then
      bif chkN [a] != 0 then some (Ending.returned (Value.int IntKind.i64 70))
      else
        bif szB b then
          bif chkN [b] != 0 then some (Ending.returned (Value.int IntKind.i64 70))
          else
            bif b.toList == (bs []).toList then some (Ending.returned (Value.int IntKind.i64 70))
            else
              bif n then
                bif a.toList == (bs []).toList then some (Ending.returned (Value.int IntKind.i64 70))
                else
                  bif szB a && szB b then
                    bif !(gcdF a b).fst.toList == (bs [1]).toList then
                      some (Ending.returned (Value.int IntKind.i64 70))
                    else some (Ending.returned (Value.int IntKind.i64 0))
                  else none
              else
                bif szB a && szB b then
                  bif !(gcdF a b).fst.toList == (bs [1]).toList then
                    some (Ending.returned (Value.int IntKind.i64 70))
                  else some (Ending.returned (Value.int IntKind.i64 0))
                else none
        else none
    else none := by kernel_rfl

set_option maxRecDepth 100000 in
theorem T_times (a b : ByteArray) : sxEnd Try.prog Rd.no natCon.p 40 70 [.string a, .string b] =
    bif szB a && szB b then
      bif (mulF a b).snd != 0 then
        some
          (Ending.panicked
            [{ v := Value.iface 174 (Value.agg { toList := [Value.int IntKind.i64 2] }), recovered := false }])
      else some (Ending.returned (Value.string (mulF a b).fst))
    else none := by kernel_rfl

set_option maxRecDepth 100000 in
theorem T_plus (a b : ByteArray) : sxEnd Try.prog Rd.no natCon.p 40 103 [.string a, .string b] =
    bif szB a && szB b then
      bif (addF a b).snd != 0 then
        some
          (Ending.panicked
            [{ v := Value.iface 174 (Value.agg { toList := [Value.int IntKind.i64 2] }), recovered := false }])
      else some (Ending.returned (Value.string (addF a b).fst))
    else none := by kernel_rfl

set_option maxRecDepth 100000 in
theorem T_sadd (n m : Bool) (a b : ByteArray) : sxEnd Try.prog Rd.no natCon.p 40 155 [.agg #[.bool n, .string a], .agg #[.bool m, .string b]] =
    bif n == m then
      bif szB a && szB b then
        bif (addF a b).snd != 0 then
          some
            (Ending.panicked
              [{ v := Value.iface 174 (Value.agg { toList := [Value.int IntKind.i64 2] }), recovered := false }])
        else some (Ending.returned (Value.agg { toList := [Value.bool n, Value.string (addF a b).fst] }))
      else none
    else
      bif szB a && szB b then
        bif decide ((cmpF a b).fst < 0) then
          bif szB b && szB a then
            bif (subF b a).snd != 0 then
              some
                (Ending.panicked
                  [{ v := Value.iface 174 (Value.agg { toList := [Value.int IntKind.i64 2] }), recovered := false }])
            else some (Ending.returned (Value.agg { toList := [Value.bool m, Value.string (subF b a).fst] }))
          else none
        else
          bif szB a && szB b then
            bif (subF a b).snd != 0 then
              some
                (Ending.panicked
                  [{ v := Value.iface 174 (Value.agg { toList := [Value.int IntKind.i64 2] }), recovered := false }])
            else some (Ending.returned (Value.agg { toList := [Value.bool n, Value.string (subF a b).fst] }))
          else none
      else none := by kernel_rfl

set_option maxRecDepth 100000 in
theorem T_over (n : Bool) (a d : ByteArray) : sxEnd Try.prog Rd.no natCon.p 40 50 [.agg #[.bool n, .string a], .string d] =
    bif szB a && szB d then
      bif (gcdF a d).snd != 0 then
        some
          (Ending.panicked
            [{ v := Value.iface 174 (Value.agg { toList := [Value.int IntKind.i64 2] }), recovered := false }])
      else
        bif szB a && szB (gcdF a d).fst then
          bif szB d && szB (gcdF a d).fst then
            bif n then
              some
                (Ending.returned
                  (Value.agg
                    {
                      toList :=
                        [Value.bool !(divF a (gcdF a d).fst).fst.toList == (bs []).toList,
                          Value.string (divF a (gcdF a d).fst).fst, Value.string (divF d (gcdF a d).fst).fst] }))
            else
              some
                (Ending.returned
                  (Value.agg
                    {
                      toList :=
                        [Value.bool false, Value.string (divF a (gcdF a d).fst).fst,
                          Value.string (divF d (gcdF a d).fst).fst] }))
          else none
        else none
    else none := by kernel_rfl

set_option maxRecDepth 100000 in
theorem T_amount (n : Int) : sxEnd Try.prog Rd.no natCon.p 40 49 [.int .i64 n] =
    bif decide (n ≥ 0) then
      bif inI n then
        bif (ofF n).snd != 0 then
          some
            (Ending.panicked
              [{ v := Value.iface 174 (Value.agg { toList := [Value.int IntKind.i64 2] }), recovered := false }])
        else some (Ending.returned (Value.string (ofF n).fst))
      else none
    else
      bif inI (IntKind.i64.wrap (0 - IntKind.i64.wrap (n + 1))) then
        bif (ofF (IntKind.i64.wrap (0 - IntKind.i64.wrap (n + 1)))).snd != 0 then
          some
            (Ending.panicked
              [{ v := Value.iface 174 (Value.agg { toList := [Value.int IntKind.i64 2] }), recovered := false }])
        else
          bif szB (ofF (IntKind.i64.wrap (0 - IntKind.i64.wrap (n + 1)))).fst && szB (bs [1]) then
            bif (addF (ofF (IntKind.i64.wrap (0 - IntKind.i64.wrap (n + 1)))).fst (bs [1])).snd != 0 then
              some
                (Ending.panicked
                  [{ v := Value.iface 174 (Value.agg { toList := [Value.int IntKind.i64 2] }), recovered := false }])
            else
              some
                (Ending.returned
                  (Value.string (addF (ofF (IntKind.i64.wrap (0 - IntKind.i64.wrap (n + 1)))).fst (bs [1])).fst))
          else none
      else none := by kernel_rfl

end Go.Proofs.Ytmcejefeloljiaa

/-
  Package ratios: the table of its inner functions holds.
-/
namespace Go.Proofs.Ytmcejefeloljiaa
open Go.RowKit Nm Go.SX

theorem eqL (s t : ByteArray) : (s.toList == t.toList) = decide (s = t) := by
  by_cases h : s = t
  · subst h; simp
  · rw [decide_eq_false h, beq_eq_false_iff_ne]
    intro he
    apply h
    rw [sdata, sdata] at he
    obtain ⟨⟨l⟩⟩ := s
    obtain ⟨⟨k⟩⟩ := t
    simp at he
    rw [he]
theorem isE_bs (s : ByteArray) : isE s = decide (s = bs []) := by
  unfold isE
  by_cases h : s = bs []
  · subst h; rfl
  · rw [decide_eq_false h]
    apply decide_eq_false
    intro he
    apply h
    obtain ⟨⟨l⟩⟩ := s
    have : l = [] := List.eq_nil_of_length_eq_zero he
    subst this
    rfl
theorem mustO_some {p : ByteArray × Int} {s : ByteArray} (h : mustO p = some s) : p.1 = s ∧ p.2 = 0 := by
  unfold mustO at h
  split at h
  · rename_i h2
    cases h
    exact ⟨rfl, h2⟩
  · cases h
theorem mustO_none {p : ByteArray × Int} (h : mustO p = none) : (p.2 != 0) = true := by
  unfold mustO at h
  split at h
  · cases h
  · rename_i h2
    simpa using h2
theorem sz256 {s : ByteArray} (h : s.size ≤ 256) : szB s = true := szB_iff.2 (Nat.le_trans h (by unfold maxLen; omega))
theorem short_size (n : Nat) : (shortN n).1.size ≤ 256 := by
  unfold shortN
  split
  · assumption
  · exact Nat.zero_le _
theorem gcdF_size (a b : ByteArray) : (gcdF a b).1.size ≤ 256 := by
  unfold gcdF
  split
  · rename_i h
    obtain ⟨n1, n2, s1, s2⟩ := chk2_zero h
    show (encS _).size ≤ 256
    obtain ⟨ea, sA⟩ := natE n1 s1
    obtain ⟨eb, sB⟩ := natE n2 s2
    rw [size_encS]
    by_cases h0 : 0 < nv a
    · exact (sA.mono (Nat.gcd_le_left _ h0))
    · rw [show nv a = 0 by omega, Nat.gcd_zero_left]
      exact sB
  · exact Nat.zero_le _
theorem subF_size (a b : ByteArray) : (subF a b).1.size ≤ 256 := by
  unfold subF
  split
  · rename_i h
    obtain ⟨n1, n2, s1, s2⟩ := chk2_zero h
    obtain ⟨ea, sA⟩ := natE n1 s1
    split
    · exact Nat.zero_le _
    · show (encS _).size ≤ 256
      rw [size_encS]
      exact sA.mono (Nat.sub_le _ _)
  · exact Nat.zero_le _
theorem mulF_size (a b : ByteArray) : (mulF a b).1.size ≤ 256 := by
  unfold mulF
  split
  · exact short_size _
  · exact Nat.zero_le _
theorem addF_size (a b : ByteArray) : (addF a b).1.size ≤ 256 := by
  unfold addF
  split
  · exact short_size _
  · exact Nat.zero_le _

theorem dne (x : Int) : decide (x ≠ 0) = (x != 0) := by cases h : x != 0 <;> simp_all
theorem check_end (n : Bool) (a b : ByteArray) (ha : szB a = true) (hb : szB b = true) : sxEnd Try.prog Rd.no natCon.p 40 22 [.agg #[.bool n, .string a, .string b]] = some (.returned (.int .i64 (checkR ⟨n, a, b⟩))) := by
  rw [T_check, ha, hb]
  unfold checkR badR
  have e1 : (⟨#[1]⟩ : ByteArray) = bs [1] := rfl
  simp only [eqL, isE_bs, cond_true, Bool.and_self, e1, dne]
  generalize (chkN [a] != 0) = x
  generalize (chkN [b] != 0) = y
  generalize hp : decide (b = bs []) = p
  generalize hq : decide (a = bs []) = q
  by_cases hg : (gcdF a b).1 = bs [1] <;> cases x <;> cases y <;> cases p <;> cases n <;> cases q <;> simp [hg]
theorem times_end (a b : ByteArray) (h : (szB a && szB b) = true) : sxEnd Try.prog Rd.no natCon.p 40 70 [.string a, .string b] = some (endS (timesO a b)) := by
  rw [T_times, h]
  unfold timesO
  cases e : mustO (mulF a b) with
  | some s => obtain ⟨h1, h2⟩ := mustO_some e; simp [h1, h2, endS]
  | none => have := mustO_none e; simp only [this, cond_true]; rfl
theorem plus_end (a b : ByteArray) (h : (szB a && szB b) = true) : sxEnd Try.prog Rd.no natCon.p 40 103 [.string a, .string b] = some (endS (plusO a b)) := by
  rw [T_plus, h]
  unfold plusO
  cases e : mustO (addF a b) with
  | some s => obtain ⟨h1, h2⟩ := mustO_some e; simp [h1, h2, endS]
  | none => have := mustO_none e; simp only [this, cond_true]; rfl
def endG (o : Option Sg) : Ending := match o with | some s => .returned (sgV s) | none => .panicked [{ v := .iface 174 (.agg #[.int .i64 2]), recovered := false }]
def endR (o : Option Rt) : Ending := match o with | some s => .returned (rtV s) | none => .panicked [{ v := .iface 174 (.agg #[.int .i64 2]), recovered := false }]
theorem sadd_end (n m : Bool) (a b : ByteArray) (h : (szB a && szB b) = true) : sxEnd Try.prog Rd.no natCon.p 40 155 [.agg #[.bool n, .string a], .agg #[.bool m, .string b]] = some (endG (saddO ⟨n, a⟩ ⟨m, b⟩)) := by
  have h' : (szB b && szB a) = true := by rw [Bool.and_comm]; exact h
  rw [T_sadd, h, h']
  unfold saddO
  by_cases hnm : n = m
  · subst hnm
    simp only [beq_self_eq_true, cond_true, if_true]
    unfold plusO
    cases e : mustO (addF a b) with
    | some s => obtain ⟨h1, h2⟩ := mustO_some e; simp [h1, h2, endG, sgV]
    | none => have := mustO_none e; simp only [this, cond_true]; rfl
  · have hb : (n == m) = false := by simpa using hnm
    rw [hb]
    simp only [cond_false, cond_true]
    rw [if_neg hnm]
    unfold lessB
    cases hl : decide ((cmpF a b).1 < 0) with
    | true =>
      simp only [cond_true, if_true]
      cases e : mustO (subF b a) with
      | some s => obtain ⟨h1, h2⟩ := mustO_some e; simp [h1, h2, endG, sgV]
      | none => have := mustO_none e; simp only [this, cond_true]; rfl
    | false =>
      simp only [cond_false, Bool.false_eq_true, if_false]
      cases e : mustO (subF a b) with
      | some s => obtain ⟨h1, h2⟩ := mustO_some e; simp [h1, h2, endG, sgV]
      | none => have := mustO_none e; simp only [this, cond_true]; rfl
theorem over_end (n : Bool) (a d : ByteArray) (ha : szB a = true) (hd : szB d = true) : sxEnd Try.prog Rd.no natCon.p 40 50 [.agg #[.bool n, .string a], .string d] = some (endR (overO ⟨n, a⟩ d)) := by
  rw [T_over, ha, hd, sz256 (gcdF_size a d)]
  unfold overO
  simp only [Bool.and_self, cond_true, eqL]
  cases e : mustO (gcdF a d) with
  | none => have := mustO_none e; simp only [this, cond_true]; rfl
  | some g =>
    obtain ⟨h1, h2⟩ := mustO_some e
    simp only [h1, h2, Option.map_some, overR, isE_bs, endR, rtV]
    cases n <;> simp
theorem wrapI {x : Int} (h1 : -9223372036854775808 ≤ x) (h2 : x ≤ 9223372036854775807) : IntKind.i64.wrap x = x := by
  rw [IntKind.wrap_i64]
  omega
theorem size_encS' {n : Nat} : ((encS n).size ≤ 256) = Sm n := by rw [size_encS]; rfl
theorem enc_sm {n : Nat} (h : n ≤ 18446744073709551616) : (encS n).size ≤ 256 := by
  rw [size_encS]
  have h9 : (enc n).length ≤ 9 := (enc_length_le n 9).2 (Nat.lt_of_le_of_lt h (by decide +kernel))
  omega
theorem amount_end (n : Int) (h : inI n = true) : sxEnd Try.prog Rd.no natCon.p 40 49 [.int .i64 n] = some (.returned (.string (encS n.natAbs))) := by
  have h0 := h
  unfold inI at h0
  rw [Bool.and_eq_true, decide_eq_true_eq, decide_eq_true_eq] at h0
  rw [T_amount, h]
  by_cases hn : 0 ≤ n
  · have e : ofF n = (encS n.toNat, 0) := if_neg (by omega)
    have e2 : n.toNat = n.natAbs := by omega
    simp [e, hn, e2]
  · have w1 : IntKind.i64.wrap (n + 1) = n + 1 := wrapI (by omega) (by omega)
    have w2 : IntKind.i64.wrap (-(n + 1)) = -(n + 1) := wrapI (by omega) (by omega)
    have e : ofF (-(n + 1)) = (encS (-(n + 1)).toNat, 0) := if_neg (by omega)
    have hi : inI (-(n + 1)) = true := by unfold inI; rw [Bool.and_eq_true, decide_eq_true_eq, decide_eq_true_eq]; omega
    have hlt : (-(n + 1)).toNat ≤ 18446744073709551616 := by omega
    have hz : (0 : Int) - (n + 1) = -(n + 1) := by omega
    have hs := sz256 (enc_sm hlt)
    have h1 : bs [1] = encS 1 := by decide +kernel
    have hadd : addF (encS (-(n + 1)).toNat) (bs [1]) = (encS n.natAbs, 0) := by
      rw [h1]
      have hc : chkN [encS (-(n + 1)).toNat, encS 1] = 0 := chkE2 (by rw [← size_encS'] ; exact enc_sm hlt) (by rw [← size_encS']; decide +kernel)
      unfold addF
      rw [if_pos hc, nv_encS, nv_encS]
      unfold shortN
      rw [show (-(n + 1)).toNat + 1 = n.natAbs by omega, if_pos (enc_sm (by omega))]
    simp only [w1, hz, w2, e, hi, hs, hadd]
    simp [hn, show szB (bs [1]) = true by decide +kernel]

theorem ratCon_ok : EConOk Try.prog ratCon := by
  have base := natCon_ok
  have pl : ∀ {f : FuncId} {vs : List Value} {e0 : Ending}, sxEnd Try.prog Rd.no natCon.p 40 f vs = some e0 → Plain Try.prog f vs e0 := fun h => plain_sound pOk (ECon.ok natCon_ok) 40 h
  intro f h hf
  unfold ratCon at hf
  split at hf
  · cases hf
    refine ⟨⟨_, Try.func22, rfl⟩, fun vs e he => ?_⟩
    simp only at he
    split at he
    · obtain ⟨h1, h2⟩ := R3.need_some he
      cases h2
      rw [Bool.and_eq_true] at h1
      exact ⟨_, rfl, pl (check_end _ _ _ h1.1 h1.2)⟩
    · cases he
  · cases hf
    refine ⟨⟨_, Try.func70, rfl⟩, fun vs e he => ?_⟩
    simp only at he
    split at he
    · rename_i a b
      obtain ⟨h1, h2⟩ := R3.need_some he
      have h3 := times_end a b h1
      cases ho : timesO a b with
      | some s => rw [ho] at h2 h3; cases h2; exact ⟨_, rfl, pl h3⟩
      | none => rw [ho] at h2 h3; cases h2; exact ⟨_, rfl, pl h3⟩
    · cases he
  · cases hf
    refine ⟨⟨_, Try.func103, rfl⟩, fun vs e he => ?_⟩
    simp only at he
    split at he
    · rename_i a b
      obtain ⟨h1, h2⟩ := R3.need_some he
      have h3 := plus_end a b h1
      cases ho : plusO a b with
      | some s => rw [ho] at h2 h3; cases h2; exact ⟨_, rfl, pl h3⟩
      | none => rw [ho] at h2 h3; cases h2; exact ⟨_, rfl, pl h3⟩
    · cases he
  · cases hf
    refine ⟨⟨_, Try.func155, rfl⟩, fun vs e he => ?_⟩
    simp only at he
    split at he
    · rename_i n a m b
      obtain ⟨h1, h2⟩ := R3.need_some he
      have h3 := sadd_end n m a b h1
      cases ho : saddO ⟨n, a⟩ ⟨m, b⟩ with
      | some s => rw [ho] at h2 h3; cases h2; exact ⟨_, rfl, pl h3⟩
      | none => rw [ho] at h2 h3; cases h2; exact ⟨_, rfl, pl h3⟩
    · cases he
  · cases hf
    refine ⟨⟨_, Try.func50, rfl⟩, fun vs e he => ?_⟩
    simp only at he
    split at he
    · rename_i n a d
      obtain ⟨h1, h2⟩ := R3.need_some he
      rw [Bool.and_eq_true] at h1
      have h3 := over_end n a d h1.1 h1.2
      cases ho : overO ⟨n, a⟩ d with
      | some s => rw [ho] at h2 h3; cases h2; exact ⟨_, rfl, pl h3⟩
      | none => rw [ho] at h2 h3; cases h2; exact ⟨_, rfl, pl h3⟩
    · cases he
  · cases hf
    refine ⟨⟨_, Try.func49, rfl⟩, fun vs e he => ?_⟩
    simp only at he
    split at he
    · obtain ⟨h1, h2⟩ := R3.need_some he
      cases h2
      exact ⟨_, rfl, pl (amount_end _ h1)⟩
    · cases he
  · exact base _ _ hf

end Go.Proofs.Ytmcejefeloljiaa

/-
  What the symbolic executor shows of the functions of package ratios.
-/
namespace Go.Proofs.Ytmcejefeloljiaa
open Go.RowKit Nm Go.SX

set_option maxRecDepth 100000 in
theorem T_new (n d : Int) : sxEnd Try.prog Rd.no ratCon.p 40 14 [.int .i64 n, .int .i64 d] =
    bif d == 0 then
      some
        (Ending.returned
          (Value.tuple
            {
              toList :=
                [Value.agg { toList := [Value.bool false, Value.string (bs []), Value.string (bs [])] },
                  Value.int IntKind.i64 71] }))
    else
      bif inI n then
        bif inI d then
          bif szB (encS n.natAbs) && szB (encS d.natAbs) then
            bif (overO { neg := !decide (n < 0) == decide (d < 0), n := encS n.natAbs } (encS d.natAbs)).isSome then
              some
                (Ending.returned
                  (Value.tuple
                    {
                      toList :=
                        [Value.agg
                            {
                              toList :=
                                [Value.bool
                                    ((overO { neg := !decide (n < 0) == decide (d < 0), n := encS n.natAbs }
                                            (encS d.natAbs)).getD
                                        zR).neg,
                                  Value.string
                                    ((overO { neg := !decide (n < 0) == decide (d < 0), n := encS n.natAbs }
                                            (encS d.natAbs)).getD
                                        zR).n,
                                  Value.string
                                    ((overO { neg := !decide (n < 0) == decide (d < 0), n := encS n.natAbs }
                                            (encS d.natAbs)).getD
                                        zR).d] },
                          Value.int IntKind.i64 0] }))
            else
              some
                (Ending.panicked
                  [{ v := Value.iface 174 (Value.agg { toList := [Value.int IntKind.i64 2] }), recovered := false }])
          else none
        else none
      else none := by kernel_rfl

set_option maxRecDepth 100000 in
theorem T_add (n m : Bool) (a b c d : ByteArray) : sxEnd Try.prog Rd.no ratCon.p 40 24 [.agg #[.bool n, .string a, .string b], .agg #[.bool m, .string c, .string d]] =
    bif szB a && szB b then
      bif checkR { neg := n, n := a, d := b } != 0 then
        bif checkR { neg := n, n := a, d := b } != 0 then
          some
            (Ending.returned
              (Value.tuple
                {
                  toList :=
                    [Value.agg { toList := [Value.bool false, Value.string (bs []), Value.string (bs [])] },
                      Value.int IntKind.i64 (checkR { neg := n, n := a, d := b })] }))
        else
          some
            (Ending.returned
              (Value.tuple
                {
                  toList :=
                    [Value.agg { toList := [Value.bool false, Value.string (bs []), Value.string (bs [])] },
                      Value.int IntKind.i64 (checkR { neg := n, n := a, d := b })] }))
      else
        bif szB c && szB d then
          bif checkR { neg := m, n := c, d := d } != 0 then
            bif checkR { neg := m, n := c, d := d } != 0 then
              some
                (Ending.returned
                  (Value.tuple
                    {
                      toList :=
                        [Value.agg
                            { toList := [Value.bool false, Value.string (bs []), Value.string (bs [])] },
                          Value.int IntKind.i64 (checkR { neg := m, n := c, d := d })] }))
            else
              some
                (Ending.returned
                  (Value.tuple
                    {
                      toList :=
                        [Value.agg
                            { toList := [Value.bool false, Value.string (bs []), Value.string (bs [])] },
                          Value.int IntKind.i64 (checkR { neg := m, n := c, d := d })] }))
          else
            bif szB b && szB d then
              bif (timesO b d).isSome then
                bif szB a && szB d then
                  bif (timesO a d).isSome then
                    bif szB c && szB b then
                      bif (timesO c b).isSome then
                        bif szB ((timesO a d).getD (bs [])) && szB ((timesO c b).getD (bs [])) then
                          bif
                              (saddO { neg := n, n := (timesO a d).getD (bs []) }
                                  { neg := m, n := (timesO c b).getD (bs []) }).isSome then
                            bif
                                szB
                                    ((saddO { neg := n, n := (timesO a d).getD (bs []) }
                                            { neg := m, n := (timesO c b).getD (bs []) }).getD
                                        { neg := false, n := (bs []) }).n &&
                                  szB ((timesO b d).getD (bs [])) then
                              bif
                                  (overO
                                      {
                                        neg :=
                                          ((saddO { neg := n, n := (timesO a d).getD (bs []) }
                                                  { neg := m, n := (timesO c b).getD (bs []) }).getD
                                              { neg := false, n := (bs []) }).neg,
                                        n :=
                                          ((saddO { neg := n, n := (timesO a d).getD (bs []) }
                                                  { neg := m, n := (timesO c b).getD (bs []) }).getD
                                              { neg := false, n := (bs []) }).n }
                                      ((timesO b d).getD (bs []))).isSome then
                                some
                                  (Ending.returned
                                    (Value.tuple
                                      {
                                        toList :=
                                          [Value.agg
                                              {
                                                toList :=
                                                  [Value.bool
                                                      ((overO
                                                              {
                                                                neg :=
                                                                  ((saddO
                                                                          { neg := n,
                                                                            n := (timesO a d).getD (bs []) }
                                                                          { neg := m,
                                                                            n := (timesO c b).getD (bs []) }).getD
                                                                      { neg := false, n := (bs []) }).neg,
                                                                n :=
                                                                  ((saddO
                                                                          { neg := n,
                                                                            n := (timesO a d).getD (bs []) }
                                                                          { neg := m,
                                                                            n := (timesO c b).getD (bs []) }).getD
                                                                      { neg := false, n := (bs []) }).n }
                                                              ((timesO b d).getD (bs []))).getD
                                                          zR).neg,
                                                    Value.string
                                                      ((overO
                                                              {
                                                                neg :=
                                                                  ((saddO
                                                                          { neg := n,
                                                                            n := (timesO a d).getD (bs []) }
                                                                          { neg := m,
                                                                            n := (timesO c b).getD (bs []) }).getD
                                                                      { neg := false, n := (bs []) }).neg,
                                                                n :=
                                                                  ((saddO
                                                                          { neg := n,
                                                                            n := (timesO a d).getD (bs []) }
                                                                          { neg := m,
                                                                            n := (timesO c b).getD (bs []) }).getD
                                                                      { neg := false, n := (bs []) }).n }
                                                              ((timesO b d).getD (bs []))).getD
                                                          zR).n,
                                                    Value.string
                                                      ((overO
                                                              {
                                                                neg :=
                                                                  ((saddO
                                                                          { neg := n,
                                                                            n := (timesO a d).getD (bs []) }
                                                                          { neg := m,
                                                                            n := (timesO c b).getD (bs []) }).getD
                                                                      { neg := false, n := (bs []) }).neg,
                                                                n :=
                                                                  ((saddO
                                                                          { neg := n,
                                                                            n := (timesO a d).getD (bs []) }
                                                                          { neg := m,
                                                                            n := (timesO c b).getD (bs []) }).getD
                                                                      { neg := false, n := (bs []) }).n }
                                                              ((timesO b d).getD (bs []))).getD
                                                          zR).d] },
                                            Value.int IntKind.i64 0] }))
                              else
                                some
                                  (Ending.returned
                                    (Value.tuple
                                      {
                                        toList :=
                                          [Value.agg
                                              {
                                                toList :=
                                                  [Value.bool false, Value.string (bs []),
                                                    Value.string (bs [])] },
                                            Value.int IntKind.i64 2] }))
                            else none
                          else
                            some
                              (Ending.returned
                                (Value.tuple
                                  {
                                    toList :=
                                      [Value.agg
                                          {
                                            toList :=
                                              [Value.bool false, Value.string (bs []),
                                                Value.string (bs [])] },
                                        Value.int IntKind.i64 2] }))
                        else none
                      else
                        some
                          (Ending.returned
                            (Value.tuple
                              {
                                toList :=
                                  [Value.agg
                                      {
                                        toList :=
                                          [Value.bool false, Value.string (bs []), Value.string (bs [])] },
                                    Value.int IntKind.i64 2] }))
                    else none
                  else
                    some
                      (Ending.returned
                        (Value.tuple
                          {
                            toList :=
                              [Value.agg
                                  {
                                    toList :=
                                      [Value.bool false, Value.string (bs []), Value.string (bs [])] },
                                Value.int IntKind.i64 2] }))
                else none
              else
                some
                  (Ending.returned
                    (Value.tuple
                      {
                        toList :=
                          [Value.agg
                              { toList := [Value.bool false, Value.string (bs []), Value.string (bs [])] },
                            Value.int IntKind.i64 2] }))
            else none
        else none
    else none := by kernel_rfl

set_option maxRecDepth 100000 in
theorem T_sub (n m : Bool) (a b c d : ByteArray) : sxEnd Try.prog Rd.no ratCon.p 40 26 [.agg #[.bool n, .string a, .string b], .agg #[.bool m, .string c, .string d]] =
    bif szB a && szB b then
      bif checkR { neg := n, n := a, d := b } != 0 then
        bif checkR { neg := n, n := a, d := b } != 0 then
          some
            (Ending.returned
              (Value.tuple
                {
                  toList :=
                    [Value.agg { toList := [Value.bool false, Value.string (bs []), Value.string (bs [])] },
                      Value.int IntKind.i64 (checkR { neg := n, n := a, d := b })] }))
        else
          some
            (Ending.returned
              (Value.tuple
                {
                  toList :=
                    [Value.agg { toList := [Value.bool false, Value.string (bs []), Value.string (bs [])] },
                      Value.int IntKind.i64 (checkR { neg := n, n := a, d := b })] }))
      else
        bif szB c && szB d then
          bif checkR { neg := m, n := c, d := d } != 0 then
            bif checkR { neg := m, n := c, d := d } != 0 then
              some
                (Ending.returned
                  (Value.tuple
                    {
                      toList :=
                        [Value.agg
                            { toList := [Value.bool false, Value.string (bs []), Value.string (bs [])] },
                          Value.int IntKind.i64 (checkR { neg := m, n := c, d := d })] }))
            else
              some
                (Ending.returned
                  (Value.tuple
                    {
                      toList :=
                        [Value.agg
                            { toList := [Value.bool false, Value.string (bs []), Value.string (bs [])] },
                          Value.int IntKind.i64 (checkR { neg := m, n := c, d := d })] }))
          else
            bif !m then
              bif szB b && szB d then
                bif (timesO b d).isSome then
                  bif szB a && szB d then
                    bif (timesO a d).isSome then
                      bif szB c && szB b then
                        bif (timesO c b).isSome then
                          bif szB ((timesO a d).getD (bs [])) && szB ((timesO c b).getD (bs [])) then
                            bif
                                (saddO { neg := n, n := (timesO a d).getD (bs []) }
                                    { neg := !c.toList == (bs []).toList,
                                      n := (timesO c b).getD (bs []) }).isSome then
                              bif
                                  szB
                                      ((saddO { neg := n, n := (timesO a d).getD (bs []) }
                                              { neg := !c.toList == (bs []).toList,
                                                n := (timesO c b).getD (bs []) }).getD
                                          { neg := false, n := (bs []) }).n &&
                                    szB ((timesO b d).getD (bs [])) then
                                bif
                                    (overO
                                        {
                                          neg :=
                                            ((saddO { neg := n, n := (timesO a d).getD (bs []) }
                                                    { neg := !c.toList == (bs []).toList,
                                                      n := (timesO c b).getD (bs []) }).getD
                                                { neg := false, n := (bs []) }).neg,
                                          n :=
                                            ((saddO { neg := n, n := (timesO a d).getD (bs []) }
                                                    { neg := !c.toList == (bs []).toList,
                                                      n := (timesO c b).getD (bs []) }).getD
                                                { neg := false, n := (bs []) }).n }
                                        ((timesO b d).getD (bs []))).isSome then
                                  some
                                    (Ending.returned
                                      (Value.tuple
                                        {
                                          toList :=
                                            [Value.agg
                                                {
                                                  toList :=
                                                    [Value.bool
                                                        ((overO
                                                                {
                                                                  neg :=
                                                                    ((saddO
                                                                            { neg := n,
                                                                              n := (timesO a d).getD (bs []) }
                                                                            { neg := !c.toList == (bs []).toList,
                                                                              n := (timesO c b).getD (bs []) }).getD
                                                                        { neg := false, n := (bs []) }).neg,
                                                                  n :=
                                                                    ((saddO
                                                                            { neg := n,
                                                                              n := (timesO a d).getD (bs []) }
                                                                            { neg := !c.toList == (bs []).toList,
                                                                              n := (timesO c b).getD (bs []) }).getD
                                                                        { neg := false, n := (bs []) }).n }
                                                                ((timesO b d).getD (bs []))).getD
                                                            zR).neg,
                                                      Value.string
                                                        ((overO
                                                                {
                                                                  neg :=
                                                                    ((saddO
                                                                            { neg := n,
                                                                              n := (timesO a d).getD (bs []) }
                                                                            {
                                                                              neg :=
                                                                                bif true then
                                                                                  !c.toList == (bs []).toList
                                                                                else false,
                                                                              n := (timesO c b).getD (bs []) }).getD
                                                                        { neg := false, n := (bs []) }).neg,
                                                                  n :=
                                                                    ((saddO
                                                                            { neg := n,
                                                                              n := (timesO a d).getD (bs []) }
                                                                            {
                                                                              neg :=
                                                                                bif true then
                                                                                  !c.toList == (bs []).toList
                                                                                else false,
                                                                              n := (timesO c b).getD (bs []) }).getD
                                                                        { neg := false, n := (bs []) }).n }
                                                                ((timesO b d).getD (bs []))).getD
                                                            zR).n,
                                                      Value.string
                                                        ((overO
                                                                {
                                                                  neg :=
                                                                    ((saddO
                                                                            { neg := n,
                                                                              n := (timesO a d).getD (bs []) }
                                                                            {
                                                                              neg :=
                                                                                bif true then
                                                                                  !c.toList == (bs []).toList
                                                                                else false,
                                                                              n := (timesO c b).getD (bs []) }).getD
                                                                        { neg := false, n := (bs []) }).neg,
                                                                  n :=
                                                                    ((saddO
                                                                            { neg := n,
                                                                              n := (timesO a d).getD (bs []) }
                                                                            {
                                                                              neg :=
                                                                                bif true then
                                                                                  !c.toList == (bs []).toList
                                                                                else false,
                                                                              n := (timesO c b).getD (bs []) }).getD
                                                                        { neg := false, n := (bs []) }).n }
                                                                ((timesO b d).getD (bs []))).getD
                                                            zR).d] },
                                              Value.int IntKind.i64 0] }))
                                else
                                  some
                                    (Ending.returned
                                      (Value.tuple
                                        {
                                          toList :=
                                            [Value.agg
                                                {
                                                  toList :=
                                                    [Value.bool false, Value.string (bs []),
                                                      Value.string (bs [])] },
                                              Value.int IntKind.i64 2] }))
                              else none
                            else
                              some
                                (Ending.returned
                                  (Value.tuple
                                    {
                                      toList :=
                                        [Value.agg
                                            {
                                              toList :=
                                                [Value.bool false, Value.string (bs []),
                                                  Value.string (bs [])] },
                                          Value.int IntKind.i64 2] }))
                          else none
                        else
                          some
                            (Ending.returned
                              (Value.tuple
                                {
                                  toList :=
                                    [Value.agg
                                        {
                                          toList :=
                                            [Value.bool false, Value.string (bs []),
                                              Value.string (bs [])] },
                                      Value.int IntKind.i64 2] }))
                      else none
                    else
                      some
                        (Ending.returned
                          (Value.tuple
                            {
                              toList :=
                                [Value.agg
                                    {
                                      toList :=
                                        [Value.bool false, Value.string (bs []), Value.string (bs [])] },
                                  Value.int IntKind.i64 2] }))
                  else none
                else
                  some
                    (Ending.returned
                      (Value.tuple
                        {
                          toList :=
                            [Value.agg
                                {
                                  toList :=
                                    [Value.bool false, Value.string (bs []), Value.string (bs [])] },
                              Value.int IntKind.i64 2] }))
              else none
            else
              bif szB b && szB d then
                bif (timesO b d).isSome then
                  bif szB a && szB d then
                    bif (timesO a d).isSome then
                      bif szB c && szB b then
                        bif (timesO c b).isSome then
                          bif szB ((timesO a d).getD (bs [])) && szB ((timesO c b).getD (bs [])) then
                            bif
                                (saddO { neg := n, n := (timesO a d).getD (bs []) }
                                    { neg := false, n := (timesO c b).getD (bs []) }).isSome then
                              bif
                                  szB
                                      ((saddO { neg := n, n := (timesO a d).getD (bs []) }
                                              { neg := false, n := (timesO c b).getD (bs []) }).getD
                                          { neg := false, n := (bs []) }).n &&
                                    szB ((timesO b d).getD (bs [])) then
                                bif
                                    (overO
                                        {
                                          neg :=
                                            ((saddO { neg := n, n := (timesO a d).getD (bs []) }
                                                    { neg := false, n := (timesO c b).getD (bs []) }).getD
                                                { neg := false, n := (bs []) }).neg,
                                          n :=
                                            ((saddO { neg := n, n := (timesO a d).getD (bs []) }
                                                    { neg := false, n := (timesO c b).getD (bs []) }).getD
                                                { neg := false, n := (bs []) }).n }
                                        ((timesO b d).getD (bs []))).isSome then
                                  some
                                    (Ending.returned
                                      (Value.tuple
                                        {
                                          toList :=
                                            [Value.agg
                                                {
                                                  toList :=
                                                    [Value.bool
                                                        ((overO
                                                                {
                                                                  neg :=
                                                                    ((saddO
                                                                            { neg := n,
                                                                              n := (timesO a d).getD (bs []) }
                                                                            { neg := false,
                                                                              n := (timesO c b).getD (bs []) }).getD
                                                                        { neg := false, n := (bs []) }).neg,
                                                                  n :=
                                                                    ((saddO
                                                                            { neg := n,
                                                                              n := (timesO a d).getD (bs []) }
                                                                            { neg := false,
                                                                              n := (timesO c b).getD (bs []) }).getD
                                                                        { neg := false, n := (bs []) }).n }
                                                                ((timesO b d).getD (bs []))).getD
                                                            zR).neg,
                                                      Value.string
                                                        ((overO
                                                                {
                                                                  neg :=
                                                                    ((saddO
                                                                            { neg := n,
                                                                              n := (timesO a d).getD (bs []) }
                                                                            { neg := false,
                                                                              n := (timesO c b).getD (bs []) }).getD
                                                                        { neg := false, n := (bs []) }).neg,
                                                                  n :=
                                                                    ((saddO
                                                                            { neg := n,
                                                                              n := (timesO a d).getD (bs []) }
                                                                            { neg := false,
                                                                              n := (timesO c b).getD (bs []) }).getD
                                                                        { neg := false, n := (bs []) }).n }
                                                                ((timesO b d).getD (bs []))).getD
                                                            zR).n,
                                                      Value.string
                                                        ((overO
                                                                {
                                                                  neg :=
                                                                    ((saddO
                                                                            { neg := n,
                                                                              n := (timesO a d).getD (bs []) }
                                                                            { neg := false,
                                                                              n := (timesO c b).getD (bs []) }).getD
                                                                        { neg := false, n := (bs []) }).neg,
                                                                  n :=
                                                                    ((saddO
                                                                            { neg := n,
                                                                              n := (timesO a d).getD (bs []) }
                                                                            { neg := false,
                                                                              n := (timesO c b).getD (bs []) }).getD
                                                                        { neg := false, n := (bs []) }).n }
                                                                ((timesO b d).getD (bs []))).getD
                                                            zR).d] },
                                              Value.int IntKind.i64 0] }))
                                else
                                  some
                                    (Ending.returned
                                      (Value.tuple
                                        {
                                          toList :=
                                            [Value.agg
                                                {
                                                  toList :=
                                                    [Value.bool false, Value.string (bs []),
                                                      Value.string (bs [])] },
                                              Value.int IntKind.i64 2] }))
                              else none
                            else
                              some
                                (Ending.returned
                                  (Value.tuple
                                    {
                                      toList :=
                                        [Value.agg
                                            {
                                              toList :=
                                                [Value.bool false, Value.string (bs []),
                                                  Value.string (bs [])] },
                                          Value.int IntKind.i64 2] }))
                          else none
                        else
                          some
                            (Ending.returned
                              (Value.tuple
                                {
                                  toList :=
                                    [Value.agg
                                        {
                                          toList :=
                                            [Value.bool false, Value.string (bs []),
                                              Value.string (bs [])] },
                                      Value.int IntKind.i64 2] }))
                      else none
                    else
                      some
                        (Ending.returned
                          (Value.tuple
                            {
                              toList :=
                                [Value.agg
                                    {
                                      toList :=
                                        [Value.bool false, Value.string (bs []), Value.string (bs [])] },
                                  Value.int IntKind.i64 2] }))
                  else none
                else
                  some
                    (Ending.returned
                      (Value.tuple
                        {
                          toList :=
                            [Value.agg
                                {
                                  toList :=
                                    [Value.bool false, Value.string (bs []), Value.string (bs [])] },
                              Value.int IntKind.i64 2] }))
              else none
        else none
    else none := by kernel_rfl

set_option maxRecDepth 100000 in
theorem T_mul (n m : Bool) (a b c d : ByteArray) : sxEnd Try.prog Rd.no ratCon.p 40 28 [.agg #[.bool n, .string a, .string b], .agg #[.bool m, .string c, .string d]] =
    bif szB a && szB b then
      bif checkR { neg := n, n := a, d := b } != 0 then
        bif checkR { neg := n, n := a, d := b } != 0 then
          some
            (Ending.returned
              (Value.tuple
                {
                  toList :=
                    [Value.agg { toList := [Value.bool false, Value.string (bs []), Value.string (bs [])] },
                      Value.int IntKind.i64 (checkR { neg := n, n := a, d := b })] }))
        else
          some
            (Ending.returned
              (Value.tuple
                {
                  toList :=
                    [Value.agg { toList := [Value.bool false, Value.string (bs []), Value.string (bs [])] },
                      Value.int IntKind.i64 (checkR { neg := n, n := a, d := b })] }))
      else
        bif szB c && szB d then
          bif checkR { neg := m, n := c, d := d } != 0 then
            bif checkR { neg := m, n := c, d := d } != 0 then
              some
                (Ending.returned
                  (Value.tuple
                    {
                      toList :=
                        [Value.agg
                            { toList := [Value.bool false, Value.string (bs []), Value.string (bs [])] },
                          Value.int IntKind.i64 (checkR { neg := m, n := c, d := d })] }))
            else
              some
                (Ending.returned
                  (Value.tuple
                    {
                      toList :=
                        [Value.agg
                            { toList := [Value.bool false, Value.string (bs []), Value.string (bs [])] },
                          Value.int IntKind.i64 (checkR { neg := m, n := c, d := d })] }))
          else
            bif szB a && szB c then
              bif (timesO a c).isSome then
                bif szB b && szB d then
                  bif (timesO b d).isSome then
                    bif szB ((timesO a c).getD (bs [])) && szB ((timesO b d).getD (bs [])) then
                      bif
                          (overO { neg := !n == m, n := (timesO a c).getD (bs []) }
                              ((timesO b d).getD (bs []))).isSome then
                        some
                          (Ending.returned
                            (Value.tuple
                              {
                                toList :=
                                  [Value.agg
                                      {
                                        toList :=
                                          [Value.bool
                                              ((overO { neg := !n == m, n := (timesO a c).getD (bs []) }
                                                      ((timesO b d).getD (bs []))).getD
                                                  zR).neg,
                                            Value.string
                                              ((overO { neg := !n == m, n := (timesO a c).getD (bs []) }
                                                      ((timesO b d).getD (bs []))).getD
                                                  zR).n,
                                            Value.string
                                              ((overO { neg := !n == m, n := (timesO a c).getD (bs []) }
                                                      ((timesO b d).getD (bs []))).getD
                                                  zR).d] },
                                    Value.int IntKind.i64 0] }))
                      else
                        some
                          (Ending.returned
                            (Value.tuple
                              {
                                toList :=
                                  [Value.agg
                                      {
                                        toList :=
                                          [Value.bool false, Value.string (bs []), Value.string (bs [])] },
                                    Value.int IntKind.i64 2] }))
                    else none
                  else
                    some
                      (Ending.returned
                        (Value.tuple
                          {
                            toList :=
                              [Value.agg
                                  {
                                    toList :=
                                      [Value.bool false, Value.string (bs []), Value.string (bs [])] },
                                Value.int IntKind.i64 2] }))
                else none
              else
                some
                  (Ending.returned
                    (Value.tuple
                      {
                        toList :=
                          [Value.agg
                              { toList := [Value.bool false, Value.string (bs []), Value.string (bs [])] },
                            Value.int IntKind.i64 2] }))
            else none
        else none
    else none := by kernel_rfl

set_option maxRecDepth 100000 in
theorem T_div (n m : Bool) (a b c d : ByteArray) : sxEnd Try.prog Rd.no ratCon.p 40 30 [.agg #[.bool n, .string a, .string b], .agg #[.bool m, .string c, .string d]] =
    bif szB a && szB b then
      bif checkR { neg := n, n := a, d := b } != 0 then
        bif checkR { neg := n, n := a, d := b } != 0 then
          some
            (Ending.returned
              (Value.tuple
                {
                  toList :=
                    [Value.agg { toList := [Value.bool false, Value.string (bs []), Value.string (bs [])] },
                      Value.int IntKind.i64 (checkR { neg := n, n := a, d := b })] }))
        else
          some
            (Ending.returned
              (Value.tuple
                {
                  toList :=
                    [Value.agg { toList := [Value.bool false, Value.string (bs []), Value.string (bs [])] },
                      Value.int IntKind.i64 (checkR { neg := n, n := a, d := b })] }))
      else
        bif szB c && szB d then
          bif checkR { neg := m, n := c, d := d } != 0 then
            bif checkR { neg := m, n := c, d := d } != 0 then
              some
                (Ending.returned
                  (Value.tuple
                    {
                      toList :=
                        [Value.agg
                            { toList := [Value.bool false, Value.string (bs []), Value.string (bs [])] },
                          Value.int IntKind.i64 (checkR { neg := m, n := c, d := d })] }))
            else
              some
                (Ending.returned
                  (Value.tuple
                    {
                      toList :=
                        [Value.agg
                            { toList := [Value.bool false, Value.string (bs []), Value.string (bs [])] },
                          Value.int IntKind.i64 (checkR { neg := m, n := c, d := d })] }))
          else
            bif c.toList == (bs []).toList then
              some
                (Ending.returned
                  (Value.tuple
                    {
                      toList :=
                        [Value.agg
                            { toList := [Value.bool false, Value.string (bs []), Value.string (bs [])] },
                          Value.int IntKind.i64 71] }))
            else
              bif szB a && szB d then
                bif (timesO a d).isSome then
                  bif szB b && szB c then
                    bif (timesO b c).isSome then
                      bif szB ((timesO a d).getD (bs [])) && szB ((timesO b c).getD (bs [])) then
                        bif
                            (overO { neg := !n == m, n := (timesO a d).getD (bs []) }
                                ((timesO b c).getD (bs []))).isSome then
                          some
                            (Ending.returned
                              (Value.tuple
                                {
                                  toList :=
                                    [Value.agg
                                        {
                                          toList :=
                                            [Value.bool
                                                ((overO { neg := !n == m, n := (timesO a d).getD (bs []) }
                                                        ((timesO b c).getD (bs []))).getD
                                                    zR).neg,
                                              Value.string
                                                ((overO { neg := !n == m, n := (timesO a d).getD (bs []) }
                                                        ((timesO b c).getD (bs []))).getD
                                                    zR).n,
                                              Value.string
                                                ((overO { neg := !n == m, n := (timesO a d).getD (bs []) }
                                                        ((timesO b c).getD (bs []))).getD
                                                    zR).d] },
                                      Value.int IntKind.i64 0] }))
                        else
                          some
                            (Ending.returned
                              (Value.tuple
                                {
                                  toList :=
                                    [Value.agg
                                        {
                                          toList :=
                                            [Value.bool false, Value.string (bs []),
                                              Value.string (bs [])] },
                                      Value.int IntKind.i64 2] }))
                      else none
                    else
                      some
                        (Ending.returned
                          (Value.tuple
                            {
                              toList :=
                                [Value.agg
                                    {
                                      toList :=
                                        [Value.bool false, Value.string (bs []), Value.string (bs [])] },
                                  Value.int IntKind.i64 2] }))
                  else none
                else
                  some
                    (Ending.returned
                      (Value.tuple
                        {
                          toList :=
                            [Value.agg
                                {
                                  toList :=
                                    [Value.bool false, Value.string (bs []), Value.string (bs [])] },
                              Value.int IntKind.i64 2] }))
              else none
        else none
    else none := by kernel_rfl

set_option maxRecDepth 100000 in
theorem T_cmp (n m : Bool) (a b c d : ByteArray) : sxEnd Try.prog Rd.no ratCon.p 40 32 [.agg #[.bool n, .string a, .string b], .agg #[.bool m, .string c, .string d]] =
    bif szB a && szB b then
      bif checkR { neg := n, n := a, d := b } != 0 then
        some
          (Ending.returned
            (Value.tuple
              { toList := [Value.int IntKind.i64 0, Value.int IntKind.i64 (checkR { neg := n, n := a, d := b })] }))
      else
        bif szB c && szB d then
          bif checkR { neg := m, n := c, d := d } != 0 then
            some
              (Ending.returned
                (Value.tuple
                  { toList := [Value.int IntKind.i64 0, Value.int IntKind.i64 (checkR { neg := m, n := c, d := d })] }))
          else
            bif szB a && szB d then
              bif (timesO a d).isSome then
                bif szB c && szB b then
                  bif (timesO c b).isSome then
                    bif n == m && ((timesO a d).getD (bs []) == (timesO c b).getD (bs []) && true) then
                      some (Ending.returned (Value.tuple { toList := [Value.int IntKind.i64 0, Value.int IntKind.i64 0] }))
                    else
                      bif !n == m then
                        bif n then
                          some
                            (Ending.returned
                              (Value.tuple { toList := [Value.int IntKind.i64 (-1), Value.int IntKind.i64 0] }))
                        else
                          bif n then
                            bif szB ((timesO c b).getD (bs [])) && szB ((timesO a d).getD (bs [])) then
                              bif
                                  decide
                                    ((cmpF ((timesO c b).getD (bs [])) ((timesO a d).getD (bs []))).fst <
                                      0) then
                                some
                                  (Ending.returned
                                    (Value.tuple { toList := [Value.int IntKind.i64 (-1), Value.int IntKind.i64 0] }))
                              else
                                bif !n then
                                  bif !m then
                                    bif
                                        szB ((timesO a d).getD (bs [])) &&
                                          szB ((timesO c b).getD (bs [])) then
                                      bif
                                          decide
                                            ((cmpF ((timesO a d).getD (bs []))
                                                  ((timesO c b).getD (bs []))).fst <
                                              0) then
                                        some
                                          (Ending.returned
                                            (Value.tuple
                                              { toList := [Value.int IntKind.i64 (-1), Value.int IntKind.i64 0] }))
                                      else
                                        some
                                          (Ending.returned
                                            (Value.tuple { toList := [Value.int IntKind.i64 1, Value.int IntKind.i64 0] }))
                                    else none
                                  else
                                    some
                                      (Ending.returned
                                        (Value.tuple { toList := [Value.int IntKind.i64 1, Value.int IntKind.i64 0] }))
                                else
                                  some
                                    (Ending.returned
                                      (Value.tuple { toList := [Value.int IntKind.i64 1, Value.int IntKind.i64 0] }))
                            else none
                          else
                            bif !n then
                              bif !m then
                                bif szB ((timesO a d).getD (bs [])) && szB ((timesO c b).getD (bs [])) then
                                  bif
                                      decide
                                        ((cmpF ((timesO a d).getD (bs []))
                                              ((timesO c b).getD (bs []))).fst <
                                          0) then
                                    some
                                      (Ending.returned
                                        (Value.tuple { toList := [Value.int IntKind.i64 (-1), Value.int IntKind.i64 0] }))
                                  else
                                    some
                                      (Ending.returned
                                        (Value.tuple { toList := [Value.int IntKind.i64 1, Value.int IntKind.i64 0] }))
                                else none
                              else
                                some
                                  (Ending.returned
                                    (Value.tuple { toList := [Value.int IntKind.i64 1, Value.int IntKind.i64 0] }))
                            else
                              some
                                (Ending.returned
                                  (Value.tuple { toList := [Value.int IntKind.i64 1, Value.int IntKind.i64 0] }))
                      else
                        bif n then
                          bif szB ((timesO c b).getD (bs [])) && szB ((timesO a d).getD (bs [])) then
                            bif
                                decide
                                  ((cmpF ((timesO c b).getD (bs [])) ((timesO a d).getD (bs []))).fst <
                                    0) then
                              some
                                (Ending.returned
                                  (Value.tuple { toList := [Value.int IntKind.i64 (-1), Value.int IntKind.i64 0] }))
                            else
                              bif !n then
                                bif !m then
                                  bif
                                      szB ((timesO a d).getD (bs [])) &&
                                        szB ((timesO c b).getD (bs [])) then
                                    bif
                                        decide
                                          ((cmpF ((timesO a d).getD (bs []))
                                                ((timesO c b).getD (bs []))).fst <
                                            0) then
                                      some
                                        (Ending.returned
                                          (Value.tuple { toList := [Value.int IntKind.i64 (-1), Value.int IntKind.i64 0] }))
                                    else
                                      some
                                        (Ending.returned
                                          (Value.tuple { toList := [Value.int IntKind.i64 1, Value.int IntKind.i64 0] }))
                                  else none
                                else
                                  some
                                    (Ending.returned
                                      (Value.tuple { toList := [Value.int IntKind.i64 1, Value.int IntKind.i64 0] }))
                              else
                                some
                                  (Ending.returned
                                    (Value.tuple { toList := [Value.int IntKind.i64 1, Value.int IntKind.i64 0] }))
                          else none
                        else
                          bif !n then
                            bif !m then
                              bif szB ((timesO a d).getD (bs [])) && szB ((timesO c b).getD (bs [])) then
                                bif
                                    decide
                                      ((cmpF ((timesO a d).getD (bs [])) ((timesO c b).getD (bs []))).fst <
                                        0) then
                                  some
                                    (Ending.returned
                                      (Value.tuple { toList := [Value.int IntKind.i64 (-1), Value.int IntKind.i64 0] }))
                                else
                                  some
                                    (Ending.returned
                                      (Value.tuple { toList := [Value.int IntKind.i64 1, Value.int IntKind.i64 0] }))
                              else none
                            else
                              some
                                (Ending.returned
                                  (Value.tuple { toList := [Value.int IntKind.i64 1, Value.int IntKind.i64 0] }))
                          else
                            some
                              (Ending.returned
                                (Value.tuple { toList := [Value.int IntKind.i64 1, Value.int IntKind.i64 0] }))
                  else some (Ending.returned (Value.tuple { toList := [Value.int IntKind.i64 0, Value.int IntKind.i64 2] }))
                else none
              else some (Ending.returned (Value.tuple { toList := [Value.int IntKind.i64 0, Value.int IntKind.i64 2] }))
            else none
        else none
    else none := by kernel_rfl

set_option maxRecDepth 100000 in
theorem T_floor (n : Bool) (a b : ByteArray) : sxEnd Try.prog Rd.no ratCon.p 40 16 [.agg #[.bool n, .string a, .string b]] =
    bif szB a && szB b then
      bif checkR { neg := n, n := a, d := b } != 0 then
        some
          (Ending.returned
            (Value.tuple
              { toList := [Value.int IntKind.i64 0, Value.int IntKind.i64 (checkR { neg := n, n := a, d := b })] }))
      else
        bif szB a && szB b then
          bif szB (divF a b).fst then
            bif !(intF (divF a b).fst).snd then
              some (Ending.returned (Value.tuple { toList := [Value.int IntKind.i64 0, Value.int IntKind.i64 2] }))
            else
              bif decide ((intF (divF a b).fst).fst > 4611686018427387904) then
                some (Ending.returned (Value.tuple { toList := [Value.int IntKind.i64 0, Value.int IntKind.i64 2] }))
              else
                bif !n then
                  some
                    (Ending.returned
                      (Value.tuple
                        { toList := [Value.int IntKind.i64 (intF (divF a b).fst).fst, Value.int IntKind.i64 0] }))
                else
                  bif !(divF a b).snd.fst.toList == (bs []).toList then
                    bif decide (IntKind.i64.wrap ((intF (divF a b).fst).fst + 1) > 4611686018427387904) then
                      some (Ending.returned (Value.tuple { toList := [Value.int IntKind.i64 0, Value.int IntKind.i64 2] }))
                    else
                      some
                        (Ending.returned
                          (Value.tuple
                            {
                              toList :=
                                [Value.int IntKind.i64
                                    (IntKind.i64.wrap (0 - IntKind.i64.wrap ((intF (divF a b).fst).fst + 1))),
                                  Value.int IntKind.i64 0] }))
                  else
                    bif decide ((intF (divF a b).fst).fst > 4611686018427387904) then
                      some (Ending.returned (Value.tuple { toList := [Value.int IntKind.i64 0, Value.int IntKind.i64 2] }))
                    else
                      some
                        (Ending.returned
                          (Value.tuple
                            {
                              toList :=
                                [Value.int IntKind.i64 (IntKind.i64.wrap (0 - (intF (divF a b).fst).fst)),
                                  Value.int IntKind.i64 0] }))
          else none
        else none
    else none := by kernel_rfl

end Go.Proofs.Ytmcejefeloljiaa

/-
  Package ratios: what Add, Sub, Mul, Div, Compare, New, Floor and Ceil come to.
-/
namespace Go.Proofs.Ytmcejefeloljiaa
set_option linter.unusedSimpArgs false
set_option linter.unusedVariables false
open Go.RowKit Nm Go.SX

def resV (p : Rt × Int) : Value := .tuple #[rtV p.1, .int .i64 p.2]
def intV (p : Int × Int) : Value := .tuple #[.int .i64 p.1, .int .i64 p.2]
def resO (o : Option Rt) : Rt × Int := match o with | some r => (r, 0) | none => (zR, 2)
def both (a b : Rt) (p : Rt × Int) : Rt × Int := if checkR a = 0 then if checkR b = 0 then p else (zR, checkR b) else (zR, checkR a)
def addO (a b : Rt) : Option Rt := (timesO a.d b.d).bind fun d => (timesO a.n b.d).bind fun x => (timesO b.n a.d).bind fun y => (saddO ⟨a.neg, x⟩ ⟨b.neg, y⟩).bind fun s => overO s d
def mulO (a b : Rt) : Option Rt := (timesO a.n b.n).bind fun n => (timesO a.d b.d).bind fun d => overO ⟨a.neg != b.neg, n⟩ d
def negR (b : Rt) : Rt := ⟨!b.neg && !isE b.n, b.n, b.d⟩
def addR (a b : Rt) : Rt × Int := both a b (resO (addO a b))
def subR (a b : Rt) : Rt × Int := both a b (resO (addO a (negR b)))
def mulR (a b : Rt) : Rt × Int := both a b (resO (mulO a b))
def divR (a b : Rt) : Rt × Int := both a b (if isE b.n then (zR, 71) else resO (mulO a ⟨b.neg, b.d, b.n⟩))
def ordS (n m : Bool) (x y : ByteArray) : Int :=
  if n = m ∧ x = y then 0 else if (n ≠ m ∧ n = true) ∨ (n = true ∧ lessB y x = true) ∨ (n = false ∧ m = false ∧ lessB x y = true) then -1 else 1
def cmpR (a b : Rt) : Int × Int :=
  if checkR a = 0 then if checkR b = 0 then
    match timesO a.n b.d, timesO b.n a.d with
    | some x, some y => (ordS a.neg b.neg x y, 0)
    | _, _ => (0, 2)
  else (0, checkR b) else (0, checkR a)
def szR (a : Rt) : Bool := szB a.n && szB a.d

theorem beqB (x y : ByteArray) : (x == y) = decide (x = y) := by
  obtain ⟨a⟩ := x
  obtain ⟨b⟩ := y
  show (a == b) = _
  by_cases h : a = b
  · subst h; simp
  · have : ¬ (ByteArray.mk a = ByteArray.mk b) := fun e => h (ByteArray.mk.inj e)
    rw [decide_eq_false this, beq_eq_false_iff_ne]
    exact h
theorem sz_times {a b x : ByteArray} (h : timesO a b = some x) : szB x = true := by
  obtain ⟨h1, _⟩ := mustO_some h
  rw [← h1]
  exact sz256 (mulF_size a b)
theorem sz_plus {a b x : ByteArray} (h : plusO a b = some x) : szB x = true := by
  obtain ⟨h1, _⟩ := mustO_some h
  rw [← h1]
  exact sz256 (addF_size a b)
theorem sz_sub {a b x : ByteArray} (h : mustO (subF a b) = some x) : szB x = true := by
  obtain ⟨h1, _⟩ := mustO_some h
  rw [← h1]
  exact sz256 (subF_size a b)
theorem sz_sadd {a b s : Sg} (h : saddO a b = some s) : szB s.n = true := by
  unfold saddO at h
  split at h
  · simp only [Option.map_eq_some_iff] at h
    obtain ⟨x, h1, rfl⟩ := h
    exact sz_plus h1
  · split at h
    · simp only [Option.map_eq_some_iff] at h
      obtain ⟨x, h1, rfl⟩ := h
      exact sz_sub h1
    · simp only [Option.map_eq_some_iff] at h
      obtain ⟨x, h1, rfl⟩ := h
      exact sz_sub h1

set_option maxHeartbeats 2000000 in
theorem add_end (n m : Bool) (a b c d : ByteArray) (ha : szB a = true) (hb : szB b = true) (hc : szB c = true) (hd : szB d = true) :
    sxEnd Try.prog Rd.no ratCon.p 40 24 [.agg #[.bool n, .string a, .string b], .agg #[.bool m, .string c, .string d]] = some (.returned (resV (addR ⟨n, a, b⟩ ⟨m, c, d⟩))) := by
  rw [T_add]
  simp only [ha, hb, hc, hd, Bool.and_self, cond_true]
  unfold addR both
  by_cases h1 : checkR ⟨n, a, b⟩ = 0
  · by_cases h2 : checkR ⟨m, c, d⟩ = 0
    · unfold addO
      cases e1 : timesO b d with
      | none => simp [h1, h2, resO, resV, rtV, zR, bs]
      | some x1 =>
        have s1 := sz_times e1
        cases e2 : timesO a d with
        | none => simp [h1, h2, resO, resV, rtV, zR, bs]
        | some x2 =>
          have s2 := sz_times e2
          cases e3 : timesO c b with
          | none => simp [h1, h2, resO, resV, rtV, zR, bs]
          | some x3 =>
            have s3 := sz_times e3
            cases e4 : saddO ⟨n, x2⟩ ⟨m, x3⟩ with
            | none => simp [h1, h2, s2, s3, e4, resO, resV, rtV, zR, bs]
            | some x4 =>
              have s4 := sz_sadd e4
              obtain ⟨q, r⟩ := x4
              simp only at s4
              cases e5 : overO ⟨q, r⟩ x1 with
              | none => simp [h1, h2, s1, s2, s3, s4, e4, e5, resO, resV, rtV, zR, bs]
              | some x5 => simp [h1, h2, s1, s2, s3, s4, e4, e5, resO, resV, rtV]
    · have h2' : (checkR ⟨m, c, d⟩ != 0) = true := by simpa using h2
      simp [h1, h2, h2', resV, rtV, zR, bs]
  · have h1' : (checkR ⟨n, a, b⟩ != 0) = true := by simpa using h1
    simp [h1, h1', resV, rtV, zR, bs]
set_option maxHeartbeats 2000000 in
theorem sub_end (n m : Bool) (a b c d : ByteArray) (ha : szB a = true) (hb : szB b = true) (hc : szB c = true) (hd : szB d = true) :
    sxEnd Try.prog Rd.no ratCon.p 40 26 [.agg #[.bool n, .string a, .string b], .agg #[.bool m, .string c, .string d]] = some (.returned (resV (subR ⟨n, a, b⟩ ⟨m, c, d⟩))) := by
  rw [T_sub]
  simp only [ha, hb, hc, hd, Bool.and_self, cond_true, eqL, ← isE_bs]
  unfold subR both negR
  by_cases h1 : checkR ⟨n, a, b⟩ = 0
  · by_cases h2 : checkR ⟨m, c, d⟩ = 0
    · have key : ∀ q : Bool, (!m && !isE c) = q → _ := fun q hq => hq
      unfold addO
      cases e1 : timesO b d with
      | none => cases m <;> simp [h1, h2, resO, resV, rtV, zR, bs]
      | some x1 =>
        have s1 := sz_times e1
        cases e2 : timesO a d with
        | none => cases m <;> simp [h1, h2, resO, resV, rtV, zR, bs]
        | some x2 =>
          have s2 := sz_times e2
          cases e3 : timesO c b with
          | none => cases m <;> simp [h1, h2, resO, resV, rtV, zR, bs]
          | some x3 =>
            have s3 := sz_times e3
            cases e4 : saddO ⟨n, x2⟩ ⟨!m && !isE c, x3⟩ with
            | none => cases m <;> simp at e4 <;> simp [h1, h2, s2, s3, e4, resO, resV, rtV, zR, bs]
            | some x4 =>
              have s4 := sz_sadd e4
              obtain ⟨q, r⟩ := x4
              simp only at s4
              cases e5 : overO ⟨q, r⟩ x1 with
              | none => cases m <;> simp at e4 <;> simp [h1, h2, s1, s2, s3, s4, e4, e5, resO, resV, rtV, zR, bs]
              | some x5 => cases m <;> simp at e4 <;> simp [h1, h2, s1, s2, s3, s4, e4, e5, resO, resV, rtV]
    · have h2' : (checkR ⟨m, c, d⟩ != 0) = true := by simpa using h2
      simp [h1, h2, h2', resV, rtV, zR, bs]
  · have h1' : (checkR ⟨n, a, b⟩ != 0) = true := by simpa using h1
    simp [h1, h1', resV, rtV, zR, bs]
set_option maxHeartbeats 2000000 in
theorem mul_end (n m : Bool) (a b c d : ByteArray) (ha : szB a = true) (hb : szB b = true) (hc : szB c = true) (hd : szB d = true) :
    sxEnd Try.prog Rd.no ratCon.p 40 28 [.agg #[.bool n, .string a, .string b], .agg #[.bool m, .string c, .string d]] = some (.returned (resV (mulR ⟨n, a, b⟩ ⟨m, c, d⟩))) := by
  rw [T_mul]
  simp only [ha, hb, hc, hd, Bool.and_self, cond_true]
  unfold mulR both
  by_cases h1 : checkR ⟨n, a, b⟩ = 0
  · by_cases h2 : checkR ⟨m, c, d⟩ = 0
    · unfold mulO
      have hne : (n != m) = !(n == m) := rfl
      cases e1 : timesO a c with
      | none => simp [h1, h2, resO, resV, rtV, zR, bs]
      | some x1 =>
        have s1 := sz_times e1
        cases e2 : timesO b d with
        | none => simp [h1, h2, resO, resV, rtV, zR, bs]
        | some x2 =>
          have s2 := sz_times e2
          cases e5 : overO ⟨n != m, x1⟩ x2 with
          | none => simp only [hne] at e5; simp [h1, h2, s1, s2, e5, hne, resO, resV, rtV, zR, bs]
          | some x5 => simp only [hne] at e5; simp [h1, h2, s1, s2, e5, hne, resO, resV, rtV]
    · have h2' : (checkR ⟨m, c, d⟩ != 0) = true := by simpa using h2
      simp [h1, h2, h2', resV, rtV, zR, bs]
  · have h1' : (checkR ⟨n, a, b⟩ != 0) = true := by simpa using h1
    simp [h1, h1', resV, rtV, zR, bs]
set_option maxHeartbeats 2000000 in
theorem div_end (n m : Bool) (a b c d : ByteArray) (ha : szB a = true) (hb : szB b = true) (hc : szB c = true) (hd : szB d = true) :
    sxEnd Try.prog Rd.no ratCon.p 40 30 [.agg #[.bool n, .string a, .string b], .agg #[.bool m, .string c, .string d]] = some (.returned (resV (divR ⟨n, a, b⟩ ⟨m, c, d⟩))) := by
  rw [T_div]
  simp only [ha, hb, hc, hd, Bool.and_self, cond_true, eqL, ← isE_bs]
  unfold divR both
  by_cases h1 : checkR ⟨n, a, b⟩ = 0
  · by_cases h2 : checkR ⟨m, c, d⟩ = 0
    · cases hz : isE c with
      | true => simp [h1, h2, hz, resV, rtV, zR, bs]
      | false =>
        unfold mulO
        have hne : (n != m) = !(n == m) := rfl
        cases e1 : timesO a d with
        | none => simp [h1, h2, hz, resO, resV, rtV, zR, bs]
        | some x1 =>
          have s1 := sz_times e1
          cases e2 : timesO b c with
          | none => simp [h1, h2, hz, resO, resV, rtV, zR, bs]
          | some x2 =>
            have s2 := sz_times e2
            cases e5 : overO ⟨n != m, x1⟩ x2 with
            | none => simp only [hne] at e5; simp [h1, h2, hz, s1, s2, e5, hne, resO, resV, rtV, zR, bs]
            | some x5 => simp only [hne] at e5; simp [h1, h2, hz, s1, s2, e5, hne, resO, resV, rtV]
    · have h2' : (checkR ⟨m, c, d⟩ != 0) = true := by simpa using h2
      simp [h1, h2, h2', resV, rtV, zR, bs]
  · have h1' : (checkR ⟨n, a, b⟩ != 0) = true := by simpa using h1
    simp [h1, h1', resV, rtV, zR, bs]
set_option maxHeartbeats 4000000 in
theorem cmp_end (n m : Bool) (a b c d : ByteArray) (ha : szB a = true) (hb : szB b = true) (hc : szB c = true) (hd : szB d = true) :
    sxEnd Try.prog Rd.no ratCon.p 40 32 [.agg #[.bool n, .string a, .string b], .agg #[.bool m, .string c, .string d]] = some (.returned (intV (cmpR ⟨n, a, b⟩ ⟨m, c, d⟩))) := by
  rw [T_cmp]
  simp only [ha, hb, hc, hd, Bool.and_self, cond_true]
  unfold cmpR
  by_cases h1 : checkR ⟨n, a, b⟩ = 0
  · by_cases h2 : checkR ⟨m, c, d⟩ = 0
    · cases e1 : timesO a d with
      | none => simp [h1, h2, intV]
      | some x =>
        have s1 := sz_times e1
        cases e2 : timesO c b with
        | none => simp [h1, h2, intV]
        | some y =>
          have s2 := sz_times e2
          have l1 : decide ((cmpF x y).1 < 0) = lessB x y := rfl
          have l2 : decide ((cmpF y x).1 < 0) = lessB y x := rfl
          simp only [h1, h2, Option.isSome_some, Option.getD_some, s1, s2, l1, l2, Bool.and_self, cond_true, cond_false, bne_self_eq_false, if_true]
          unfold ordS intV
          by_cases hxy : x = y
          · have hb' : (x == y) = true := by rw [beqB]; exact decide_eq_true hxy
            rw [hb']
            cases n <;> cases m <;> cases lessB x y <;> cases lessB y x <;> simp [hxy]
          · have hb' : (x == y) = false := by rw [beqB]; exact decide_eq_false hxy
            rw [hb']
            cases n <;> cases m <;> cases lessB x y <;> cases lessB y x <;> simp [hxy]
    · have h2' : (checkR ⟨m, c, d⟩ != 0) = true := by simpa using h2
      simp [h1, h2, h2', intV]
  · have h1' : (checkR ⟨n, a, b⟩ != 0) = true := by simpa using h1
    simp [h1, h1', intV]

def floorR (a : Rt) : Int × Int :=
  if checkR a = 0 then
    if (intF (divF a.n a.d).1).2 = false ∨ (intF (divF a.n a.d).1).1 > 4611686018427387904 then (0, 2)
    else if a.neg = false then ((intF (divF a.n a.d).1).1, 0)
    else if (if isE (divF a.n a.d).2.1 then (intF (divF a.n a.d).1).1 else (intF (divF a.n a.d).1).1 + 1) > 4611686018427387904 then (0, 2)
    else (-(if isE (divF a.n a.d).2.1 then (intF (divF a.n a.d).1).1 else (intF (divF a.n a.d).1).1 + 1), 0)
  else (0, checkR a)
def ceilR (a : Rt) : Int × Int := if checkR a = 0 then (-(floorR (negR a)).1, (floorR (negR a)).2) else (0, checkR a)
theorem divF_size (a b : ByteArray) : (divF a b).1.size ≤ 256 := by
  unfold divF
  split
  · rename_i h
    obtain ⟨n1, n2, s1, s2⟩ := chk2_zero h
    obtain ⟨ea, sA⟩ := natE n1 s1
    split
    · exact Nat.zero_le _
    · show (encS _).size ≤ 256
      rw [size_encS]
      exact sA.mono (Nat.div_le_self _ _)
  · exact Nat.zero_le _
theorem intF_range (s : ByteArray) : 0 ≤ (intF s).1 ∧ (intF s).1 < 9223372036854775808 := by
  unfold intF
  split
  · rename_i h
    simp only
    omega
  · simp
theorem floor_end (n : Bool) (a b : ByteArray) (ha : szB a = true) (hb : szB b = true) :
    sxEnd Try.prog Rd.no ratCon.p 40 16 [.agg #[.bool n, .string a, .string b]] = some (.returned (intV (floorR ⟨n, a, b⟩))) := by
  rw [T_floor]
  simp only [ha, hb, sz256 (divF_size a b), Bool.and_self, cond_true, eqL, ← isE_bs]
  unfold floorR intV
  by_cases h1 : checkR ⟨n, a, b⟩ = 0
  · obtain ⟨r1, r2⟩ := intF_range (divF a b).1
    simp only [h1, if_true, bne_self_eq_false, cond_false]
    generalize (intF (divF a b).1).1 = i at *
    generalize (intF (divF a b).1).2 = o at *
    generalize isE (divF a b).2.1 = z
    by_cases hi : i > 4611686018427387904
    · cases o <;> simp [hi]
    · have w1 : IntKind.i64.wrap (i + 1) = i + 1 := wrapI (by omega) (by omega)
      have w2 : IntKind.i64.wrap (0 - (i + 1)) = -(i + 1) := by rw [wrapI (by omega) (by omega)]; omega
      have w3 : IntKind.i64.wrap (0 - i) = -i := by rw [wrapI (by omega) (by omega)]; omega
      rw [w1, w2, w3]
      by_cases hj : i + 1 > 4611686018427387904
      · cases o <;> cases n <;> cases z <;> simp [hi, hj]
      · cases o <;> cases n <;> cases z <;> simp [hi, hj]
  · have h1' : (checkR ⟨n, a, b⟩ != 0) = true := by simpa using h1
    simp [h1, h1']
def newR (n d : Int) : Rt × Int := if d = 0 then (zR, 71) else resO (overO ⟨decide (n < 0) != decide (d < 0), encS n.natAbs⟩ (encS d.natAbs))
theorem over_small {n : Bool} {a d : Nat} (ha : Sm a) (hd : Sm d) : overO ⟨n, encS a⟩ (encS d) = some (overR ⟨n, encS a⟩ (encS d) (encS (Nat.gcd a d))) := by
  unfold overO mustO
  rw [gcdE ha hd]
  rfl
theorem sm_abs {n : Int} (h : inI n = true) : Sm n.natAbs := by
  unfold inI at h
  rw [Bool.and_eq_true, decide_eq_true_eq, decide_eq_true_eq] at h
  have := enc_sm (n := n.natAbs) (by omega)
  rwa [size_encS'] at this
theorem new_end (n d : Int) (hn : inI n = true) (hd : inI d = true) : sxEnd Try.prog Rd.no ratCon.p 40 14 [.int .i64 n, .int .i64 d] = some (.returned (resV (newR n d))) := by
  rw [T_new]
  have sn := sm_abs hn
  have sd := sm_abs hd
  simp only [hn, hd, sz256 sn.size, sz256 sd.size, Bool.and_self, cond_true]
  unfold newR
  have hne : (decide (n < 0) != decide (d < 0)) = !(decide (n < 0) == decide (d < 0)) := rfl
  by_cases h : d = 0
  · simp [h, resV, rtV, zR, bs]
  · have hb : (d == 0) = false := by simpa using h
    rw [hb, if_neg h, hne, over_small sn sd]
    simp [resO, resV, rtV]
/-- the table with Floor -/
def flCon : ECon := fun f =>
  match f with
  | 16 => some fun vs => match vs with
    | [.agg ⟨[.bool n, .string a, .string b]⟩] => .need (szB a && szB b) (.ok (.ret (.tup [.val (.int .i64 (floorR ⟨n, a, b⟩).1), .val (.int .i64 (floorR ⟨n, a, b⟩).2)])))
    | _ => .no
  | f => ratCon f
theorem flCon_ok : EConOk Try.prog flCon := by
  intro f h hf
  unfold flCon at hf
  split at hf
  · cases hf
    refine ⟨⟨_, Try.func16, rfl⟩, fun vs e he => ?_⟩
    simp only at he
    split at he
    · obtain ⟨h1, h2⟩ := R3.need_some he
      cases h2
      rw [Bool.and_eq_true] at h1
      exact ⟨_, rfl, plain_sound pOk (ECon.ok ratCon_ok) 40 (floor_end _ _ _ h1.1 h1.2)⟩
    · cases he
  · exact ratCon_ok _ _ hf

end Go.Proofs.Ytmcejefeloljiaa

/-
  What the symbolic executor shows of Ceil.
-/
namespace Go.Proofs.Ytmcejefeloljiaa
open Go.RowKit Nm Go.SX

set_option maxRecDepth 100000 in
theorem T_ceil (n : Bool) (a b : ByteArray) : sxEnd Try.prog Rd.no flCon.p 40 18 [.agg #[.bool n, .string a, .string b]] =
    bif szB a && szB b then
      bif checkR { neg := n, n := a, d := b } != 0 then
        some
          (Ending.returned
            (Value.tuple
              { toList := [Value.int IntKind.i64 0, Value.int IntKind.i64 (checkR { neg := n, n := a, d := b })] }))
      else
        bif !n then
          bif szB a && szB b then
            some
              (Ending.returned
                (Value.tuple
                  {
                    toList :=
                      [Value.int IntKind.i64
                          (IntKind.i64.wrap
                            (0 -
                              (floorR
                                  { neg := bif true then !a.toList == (bs []).toList else false, n := a,
                                    d := b }).fst)),
                        Value.int IntKind.i64
                          (floorR
                              { neg := bif true then !a.toList == (bs []).toList else false, n := a,
                                d := b }).snd] }))
          else none
        else
          bif szB a && szB b then
            some
              (Ending.returned
                (Value.tuple
                  {
                    toList :=
                      [Value.int IntKind.i64 (IntKind.i64.wrap (0 - (floorR { neg := false, n := a, d := b }).fst)),
                        Value.int IntKind.i64 (floorR { neg := false, n := a, d := b }).snd] }))
          else none
    else none := by kernel_rfl

end Go.Proofs.Ytmcejefeloljiaa

/-
  Package ratios: the table of its functions.
-/
namespace Go.Proofs.Ytmcejefeloljiaa
open Go.RowKit Nm Go.SX

theorem check_neg (a : Rt) (h : checkR a = 0) : checkR (negR a) = 0 := by
  unfold checkR at h ⊢
  unfold badR at h ⊢
  unfold negR
  simp only
  cases hn : a.neg <;> cases he : isE a.n <;> simp_all
theorem floorR_range (a : Rt) : -4611686018427387904 ≤ (floorR a).1 ∧ (floorR a).1 ≤ 4611686018427387904 := by
  obtain ⟨r1, r2⟩ := intF_range (divF a.n a.d).1
  unfold floorR
  generalize (intF (divF a.n a.d).1).1 = i at *
  generalize (intF (divF a.n a.d).1).2 = o at *
  generalize isE (divF a.n a.d).2.1 = z
  have key : ∀ j : Int, 0 ≤ j → -4611686018427387904 ≤ (if j > 4611686018427387904 then ((0, 2) : Int × Int) else (-j, 0)).1 ∧ (if j > 4611686018427387904 then ((0, 2) : Int × Int) else (-j, 0)).1 ≤ 4611686018427387904 := by
    intro j hj
    split
    · simp
    · simp only; omega
  split
  · split
    · simp
    · rename_i h
      split
      · simp only; omega
      · split
        · exact key _ (by omega)
        · exact key _ (by omega)
  · simp
theorem ceil_end (n : Bool) (a b : ByteArray) (ha : szB a = true) (hb : szB b = true) :
    sxEnd Try.prog Rd.no flCon.p 40 18 [.agg #[.bool n, .string a, .string b]] = some (.returned (intV (ceilR ⟨n, a, b⟩))) := by
  rw [T_ceil]
  simp only [ha, hb, Bool.and_self, cond_true, eqL, ← isE_bs]
  unfold ceilR intV
  have w : ∀ x : Rt, IntKind.i64.wrap (0 - (floorR x).1) = -(floorR x).1 := fun x => by
    have := floorR_range x
    rw [wrapI (by omega) (by omega)]
    omega
  have w2 : ∀ x : Rt, IntKind.i64.wrap (-(floorR x).1) = -(floorR x).1 := fun x => by
    have := w x
    rwa [Int.zero_sub] at this
  by_cases h1 : checkR ⟨n, a, b⟩ = 0
  · cases n <;> simp [h1, w2, negR]
  · have h1' : (checkR ⟨n, a, b⟩ != 0) = true := by simpa using h1
    simp [h1, h1']
def retR (p : Rt × Int) : R3 OutE := .ok (.ret (.tup [.val (.agg #[.bool p.1.neg, .string p.1.n, .string p.1.d]), .val (.int .i64 p.2)]))
def retI (p : Int × Int) : R3 OutE := .ok (.ret (.tup [.val (.int .i64 p.1), .val (.int .i64 p.2)]))
def binR (g : Rt → Rt → Rt × Int) (vs : List Value) : R3 OutE :=
  match vs with
  | [.agg ⟨[.bool n, .string a, .string b]⟩, .agg ⟨[.bool m, .string c, .string d]⟩] => .need (szB a && szB b && (szB c && szB d)) (retR (g ⟨n, a, b⟩ ⟨m, c, d⟩))
  | _ => .no
def apiCon : ECon := fun f =>
  match f with
  | 24 => some (binR addR)
  | 26 => some (binR subR)
  | 28 => some (binR mulR)
  | 30 => some (binR divR)
  | 32 => some fun vs => match vs with
    | [.agg ⟨[.bool n, .string a, .string b]⟩, .agg ⟨[.bool m, .string c, .string d]⟩] => .need (szB a && szB b && (szB c && szB d)) (retI (cmpR ⟨n, a, b⟩ ⟨m, c, d⟩))
    | _ => .no
  | 18 => some fun vs => match vs with
    | [.agg ⟨[.bool n, .string a, .string b]⟩] => .need (szB a && szB b) (retI (ceilR ⟨n, a, b⟩))
    | _ => .no
  | 14 => some fun vs => match vs with
    | [.int .i64 n, .int .i64 d] => .need (inI n && inI d) (retR (newR n d))
    | _ => .no
  | f => flCon f
theorem binR_ok {f : FuncId} {g : Rt → Rt → Rt × Int} (h : ∀ n m a b c d, szB a = true → szB b = true → szB c = true → szB d = true →
    Plain Try.prog f [.agg #[.bool n, .string a, .string b], .agg #[.bool m, .string c, .string d]] (.returned (resV (g ⟨n, a, b⟩ ⟨m, c, d⟩)))) (vs : List Value) (e : OutE) (he : (binR g vs).res = some e) :
    ∃ e0, e.end = some e0 ∧ Plain Try.prog f vs e0 := by
  unfold binR at he
  split at he
  · obtain ⟨h1, h2⟩ := R3.need_some he
    cases h2
    simp only [Bool.and_eq_true] at h1
    exact ⟨_, rfl, h _ _ _ _ _ _ h1.1.1 h1.1.2 h1.2.1 h1.2.2⟩
  · cases he
theorem apiCon_ok : EConOk Try.prog apiCon := by
  have pl : ∀ {f : FuncId} {vs : List Value} {e0 : Ending}, sxEnd Try.prog Rd.no ratCon.p 40 f vs = some e0 → Plain Try.prog f vs e0 := fun h => plain_sound pOk (ECon.ok ratCon_ok) 40 h
  intro f h hf
  unfold apiCon at hf
  split at hf
  · cases hf; exact ⟨⟨_, Try.func24, rfl⟩, binR_ok fun n m a b c d h1 h2 h3 h4 => pl (add_end n m a b c d h1 h2 h3 h4)⟩
  · cases hf; exact ⟨⟨_, Try.func26, rfl⟩, binR_ok fun n m a b c d h1 h2 h3 h4 => pl (sub_end n m a b c d h1 h2 h3 h4)⟩
  · cases hf; exact ⟨⟨_, Try.func28, rfl⟩, binR_ok fun n m a b c d h1 h2 h3 h4 => pl (mul_end n m a b c d h1 h2 h3 h4)⟩
  · cases hf; exact ⟨⟨_, Try.func30, rfl⟩, binR_ok fun n m a b c d h1 h2 h3 h4 => pl (div_end n m a b c d h1 h2 h3 h4)⟩
  · cases hf
    refine ⟨⟨_, Try.func32, rfl⟩, fun vs e he => ?_⟩
    simp only at he
    split at he
    · obtain ⟨h1, h2⟩ := R3.need_some he
      cases h2
      simp only [Bool.and_eq_true] at h1
      exact ⟨_, rfl, pl (cmp_end _ _ _ _ _ _ h1.1.1 h1.1.2 h1.2.1 h1.2.2)⟩
    · cases he
  · cases hf
    refine ⟨⟨_, Try.func18, rfl⟩, fun vs e he => ?_⟩
    simp only at he
    split at he
    · obtain ⟨h1, h2⟩ := R3.need_some he
      cases h2
      rw [Bool.and_eq_true] at h1
      exact ⟨_, rfl, plain_sound pOk (ECon.ok flCon_ok) 40 (ceil_end _ _ _ h1.1 h1.2)⟩
    · cases he
  · cases hf
    refine ⟨⟨_, Try.func14, rfl⟩, fun vs e he => ?_⟩
    simp only at he
    split at he
    · obtain ⟨h1, h2⟩ := R3.need_some he
      cases h2
      rw [Bool.and_eq_true] at h1
      exact ⟨_, rfl, pl (new_end _ _ h1.1 h1.2)⟩
    · cases he
  · exact flCon_ok _ _ hf

end Go.Proofs.Ytmcejefeloljiaa

/-
  The examples of the chapter.
-/
namespace Go.Proofs.Ytmcejefeloljiaa
open Go.RowKit Nm Go.SX

def bRt (a b : Rt) : Bool := (a.neg == b.neg) && ((a.n == b.n) && (a.d == b.d))
theorem bRt_eq {a b : Rt} (h : bRt a b = true) : a = b := by
  obtain ⟨n, x, y⟩ := a
  obtain ⟨m, z, u⟩ := b
  unfold bRt at h
  simp only [beqB, Bool.and_eq_true, decide_eq_true_eq, beq_iff_eq] at h
  obtain ⟨h1, h2, h3⟩ := h
  rw [h1, h2, h3]
/-- a result that is one of some is that one -/
def oneR (p : Rt × Int) : List (Rt × Int) → R3 OutE
  | [] => .no
  | c :: l => .br (bRt p.1 c.1 && p.2 == c.2) (retR c) (oneR p l)
theorem oneR_eq {p : Rt × Int} : ∀ {l : List (Rt × Int)} {e : OutE}, (oneR p l).res = some e → (retR p).res = some e
  | [], _, h => by cases h
  | c :: l, e, h => by
    simp only [oneR, R3.res] at h
    cases hb : (bRt p.1 c.1 && p.2 == c.2) with
    | true =>
      rw [hb] at h
      rw [Bool.and_eq_true] at hb
      have h1 := bRt_eq hb.1
      have h2 : p.2 = c.2 := by simpa using hb.2
      have : p = c := Prod.ext h1 h2
      rw [this]
      exact h
    | false =>
      rw [hb] at h
      exact oneR_eq h
def oneI (p : Int × Int) : List (Int × Int) → R3 OutE
  | [] => .no
  | c :: l => .br (p.1 == c.1 && p.2 == c.2) (retI c) (oneI p l)
theorem oneI_eq {p : Int × Int} : ∀ {l : List (Int × Int)} {e : OutE}, (oneI p l).res = some e → (retI p).res = some e
  | [], _, h => by cases h
  | c :: l, e, h => by
    simp only [oneI, R3.res] at h
    cases hb : (p.1 == c.1 && p.2 == c.2) with
    | true =>
      rw [hb] at h
      rw [Bool.and_eq_true] at hb
      have : p = c := Prod.ext (by simpa using hb.1) (by simpa using hb.2)
      rw [this]
      exact h
    | false =>
      rw [hb] at h
      exact oneI_eq h
def saneL : List (Rt × Int) := [(⟨true, bs [2], bs [3]⟩, 0), (⟨false, bs [], bs [1]⟩, 0), (⟨false, bs [], bs []⟩, 71), (⟨false, bs [], bs [1]⟩, 71), (⟨false, bs [4], bs [15]⟩, 0), (⟨true, bs [1], bs [2]⟩, 0), (⟨true, bs [3], bs [4]⟩, 0)]
def saneI : List (Int × Int) := [(-1, 0), (0, 0), (3, 0), (4, 0)]
def filt (e : OutE) : R3 OutE :=
  match e with
  | .ret (.tup [.val (.agg ⟨[.bool a, .string b, .string c]⟩), .val (.int .i64 k)]) => oneR (⟨a, b, c⟩, k) saneL
  | .ret (.tup [.val (.int .i64 a), .val (.int .i64 k)]) => oneI (a, k) saneI
  | e => .ok e
theorem filt_eq {e e' : OutE} (h : (filt e).res = some e') : e' = e := by
  unfold filt at h
  split at h
  · have := oneR_eq h
    cases this
    rfl
  · have := oneI_eq h
    cases this
    rfl
  · cases h
    rfl
def fltCon (g : ECon) : ECon := fun f =>
  match g f with
  | some h => some fun vs => (h vs).bind filt
  | none => none
theorem fltCon_ok {g : ECon} (hg : EConOk Try.prog g) : EConOk Try.prog (fltCon g) := by
  intro f h hf
  unfold fltCon at hf
  split at hf
  · rename_i h0 hh
    cases hf
    obtain ⟨h1, h2⟩ := hg f h0 hh
    refine ⟨h1, fun vs e he => ?_⟩
    obtain ⟨e0, h3, h4⟩ := R3.bind_some _ _ _ he
    rw [filt_eq h4]
    exact h2 vs e0 h3
  · cases hf
def saneCon : ECon := fltCon apiCon
set_option maxRecDepth 100000 in
theorem T_sane : sxEnd Try.prog Rd.no saneCon.p 60 12 [] = some (.returned (.bool true)) := by kernel_rfl
def lawCon : ECon := fun f =>
  match f with
  | 12 => some fun vs => match vs with | [] => .ok (.ret (.val (.bool true))) | _ => .no
  | f => apiCon f
theorem lawCon_ok : EConOk Try.prog lawCon := by
  intro f h hf
  unfold lawCon at hf
  split at hf
  · cases hf
    refine ⟨⟨_, Try.func12, rfl⟩, fun vs e he => ?_⟩
    simp only at he
    split at he
    · cases he
      exact ⟨_, rfl, plain_sound pOk (ECon.ok (fltCon_ok apiCon_ok)) 60 T_sane⟩
    · cases he
  · exact apiCon_ok _ _ hf

end Go.Proofs.Ytmcejefeloljiaa

/-
  Plain numbers: lists of ints to the base 256, the least significant first (the reference's sums and products).
-/
namespace Go.Proofs.Ytmcejefeloljiaa.Nm
set_option linter.unusedVariables false
set_option linter.unusedSimpArgs false

/-- the value of a list of ints, the least significant first -/
def vle : List Int → Int
  | [] => 0
  | x :: l => x + 256 * vle l
/-- the bytes of a text, the last one first -/
def dgi (b : List UInt8) : List Int := (b.map fun x => ((x.toNat : Nat) : Int)).reverse

theorem vle_append (l m : List Int) : vle (l ++ m) = vle l + 256 ^ l.length * vle m := by
  induction l with
  | nil => simp [vle]
  | cons x l ih =>
    simp only [List.cons_append, vle, ih, List.length_cons, Int.pow_succ, Int.mul_add]
    rw [Int.mul_comm (256 ^ l.length) 256, Int.mul_assoc]
    omega
theorem vle_snoc (l : List Int) (x : Int) : vle (l ++ [x]) = vle l + 256 ^ l.length * x := by
  rw [vle_append]; simp [vle]
theorem vle_split (l : List Int) (i : Nat) (h : i ≤ l.length) : vle l = vle (l.take i) + 256 ^ i * vle (l.drop i) := by
  have := vle_append (l.take i) (l.drop i)
  rw [List.take_append_drop, List.length_take, Nat.min_eq_left h] at this
  exact this
theorem vle_drop (l : List Int) (i : Nat) (h : i < l.length) : vle (l.drop i) = l[i] + 256 * vle (l.drop (i + 1)) := by
  rw [List.drop_eq_getElem_cons h]; rfl
theorem vle_take (l : List Int) (i : Nat) : vle (l.take (i + 1)) = vle (l.take i) + 256 ^ i * l.getD i 0 := by
  by_cases h : i < l.length
  · rw [List.take_succ_eq_append_getElem h, vle_snoc, List.length_take, Nat.min_eq_left (by omega)]
    simp [List.getD, h]
  · rw [List.take_of_length_le (by omega), List.take_of_length_le (by omega)]
    simp [List.getD, List.getElem?_eq_none (by omega : l.length ≤ i)]
theorem vle_set (l : List Int) (i : Nat) (x : Int) (h : i < l.length) : vle (l.set i x) = vle l + 256 ^ i * (x - l[i]) := by
  induction l generalizing i with
  | nil => simp at h
  | cons y l ih =>
    cases i with
    | zero => simp [vle]; omega
    | succ i =>
      simp only [List.length_cons] at h
      simp only [List.set_cons_succ, vle, List.getElem_cons_succ, ih i (by omega), Int.pow_succ, Int.mul_add]
      rw [Int.mul_comm (256 ^ i) 256, Int.mul_assoc]
      omega
theorem vle_nonneg (l : List Int) (h : ∀ x ∈ l, 0 ≤ x) : 0 ≤ vle l := by
  induction l with
  | nil => simp [vle]
  | cons x l ih =>
    have h1 := h x (by simp)
    have h2 := ih fun y hy => h y (by simp [hy])
    simp only [vle]; omega
theorem vle_lt (l : List Int) (h : ∀ x ∈ l, x < 256) : vle l < 256 ^ l.length := by
  induction l with
  | nil => simp [vle]
  | cons x l ih =>
    have h1 := h x (by simp)
    have h2 := ih fun y hy => h y (by simp [hy])
    simp only [vle, List.length_cons, Int.pow_succ]; omega
theorem vle_replicate (n : Nat) : vle (List.replicate n 0) = 0 := by
  induction n with
  | zero => rfl
  | succ n ih => rw [List.replicate_succ, vle, ih]; rfl
theorem length_dgi (b : List UInt8) : (dgi b).length = b.length := by simp [dgi]
theorem vle_dgi (b : List UInt8) : vle (dgi b) = ((val b : Nat) : Int) := by
  induction b with
  | nil => rfl
  | cons x l ih =>
    have e : dgi (x :: l) = dgi l ++ [((x.toNat : Nat) : Int)] := by simp [dgi]
    rw [e, vle_snoc, ih, length_dgi, val_cons, Int.natCast_add, Int.natCast_mul, Int.natCast_pow, Int.mul_comm]
    simp only [Int.cast_ofNat_Int]
    omega
theorem dgi_range (b : List UInt8) : ∀ x ∈ dgi b, 0 ≤ x ∧ x < 256 := by
  intro x hx
  simp only [dgi, List.mem_reverse, List.mem_map] at hx
  obtain ⟨y, _, rfl⟩ := hx
  have := y.toNat_lt
  omega
/-- digits, one more -/
theorem dgi_drop (b : List UInt8) (i : Nat) (h : i < b.length) : dgi (b.drop i) = dgi (b.drop (i + 1)) ++ [((b[i].toNat : Nat) : Int)] := by
  rw [List.drop_eq_getElem_cons h]
  unfold dgi
  rw [List.map_cons, List.reverse_cons]
theorem getD_range {l : List Int} {a b : Int} (h : ∀ x ∈ l, a ≤ x ∧ x < b) (ha : a ≤ 0) (hb : 0 < b) (i : Nat) : a ≤ l.getD i 0 ∧ l.getD i 0 < b := by
  by_cases hi : i < l.length
  · simp only [List.getD, List.getElem?_eq_getElem hi, Option.getD_some]
    exact h _ (List.getElem_mem hi)
  · simp only [List.getD, List.getElem?_eq_none (by omega : l.length ≤ i), Option.getD_none]
    exact ⟨ha, hb⟩

/-- between two rounds of 'carry' -/
structure carryI (l out : List Int) (over : Int) (i : Nat) : Prop where
  len : out.length = i
  rng : ∀ x ∈ out, 0 ≤ x ∧ x < 256
  sum : vle out + 256 ^ i * (over + vle (l.drop i)) = vle l
  low : i ≤ l.length → -17179869184 ≤ over ∧ over ≤ 17179869184
  top : l.length < i → 0 ≤ over ∧ over * 256 ^ (i - l.length) ≤ 17179869184
theorem carryI.zero (l : List Int) : carryI l [] 0 0 :=
  ⟨rfl, by simp, by simp [vle], by omega, by omega⟩
theorem carryI.step {l out : List Int} {over d : Int} {i : Nat} (h : carryI l out over i) (hi : i < l.length) (hd : d = over + l[i]) (he : -8589934592 ≤ l[i] ∧ l[i] ≤ 8589934592) :
    carryI l (out ++ [d % 256]) (d / 256) (i + 1) := by
  obtain ⟨h1, h2, h3, h4, _⟩ := h
  have hl := h4 (by omega)
  refine ⟨by simp [h1], ?_, ?_, by omega, by omega⟩
  · intro x hx
    rw [List.mem_append] at hx
    rcases hx with hx | hx
    · exact h2 x hx
    · simp at hx; subst hx; omega
  · rw [vle_snoc, h1, ← h3, vle_drop l i hi, Int.pow_succ, Int.mul_assoc, Int.add_assoc, ← Int.mul_add]
    congr 2
    omega
theorem carryI.more {l out : List Int} {over : Int} {i : Nat} (h : carryI l out over i) (hi : l.length ≤ i) (hp : 0 < over) :
    carryI l (out ++ [over % 256]) (over / 256) (i + 1) ∧ i ≤ l.length + 5 := by
  obtain ⟨h1, h2, h3, h4, h5⟩ := h
  have hb : over * 256 ^ (i - l.length) ≤ 17179869184 := by
    by_cases he : i = l.length
    · subst he; simp; exact (h4 (Nat.le_refl _)).2
    · exact (h5 (by omega)).2
  refine ⟨⟨by simp [h1], ?_, ?_, by omega, ?_⟩, ?_⟩
  · intro x hx
    rw [List.mem_append] at hx
    rcases hx with hx | hx
    · exact h2 x hx
    · simp at hx; subst hx; omega
  · rw [vle_snoc, h1, ← h3, List.drop_of_length_le hi, List.drop_of_length_le (by omega)]
    simp only [vle]
    rw [Int.pow_succ, Int.mul_assoc, Int.add_assoc, ← Int.mul_add]
    congr 2
    omega
  · intro _
    refine ⟨by omega, ?_⟩
    rw [show i + 1 - l.length = (i - l.length) + 1 by omega, Int.pow_succ]
    have hp2 : (0 : Int) ≤ 256 ^ (i - l.length) := Int.pow_nonneg (by omega)
    have : over / 256 * (256 ^ (i - l.length) * 256) = (over / 256 * 256) * 256 ^ (i - l.length) := by
      rw [Int.mul_comm (256 ^ (i - l.length)) 256, Int.mul_assoc]
    rw [this]
    exact Int.le_trans (Int.mul_le_mul_of_nonneg_right (show over / 256 * 256 ≤ over by omega) hp2) hb
  · apply Decidable.byContradiction
    intro hc
    have e : (256 : Int) ^ 6 ≤ 256 ^ (i - l.length) := by
      have := Nat.pow_le_pow_right (show 0 < 256 by omega) (show 6 ≤ i - l.length by omega)
      have h6 : ((256 ^ 6 : Nat) : Int) ≤ ((256 ^ (i - l.length) : Nat) : Int) := by omega
      rw [Int.natCast_pow, Int.natCast_pow] at h6
      exact h6
    have e2 : 1 * (256 : Int) ^ (i - l.length) ≤ over * 256 ^ (i - l.length) := Int.mul_le_mul_of_nonneg_right (by omega) (Int.pow_nonneg (by omega))
    have e3 : (256 : Int) ^ 6 = 281474976710656 := by decide
    omega
theorem carryI.bound {l out : List Int} {over : Int} {i : Nat} (h : carryI l out over i) : -17179869184 ≤ over ∧ over ≤ 17179869184 := by
  obtain ⟨h1, h2, h3, h4, h5⟩ := h
  by_cases hi : i ≤ l.length
  · exact h4 hi
  · have h6 := h5 (by omega)
    have hp : (1 : Int) ≤ 256 ^ (i - l.length) := Int.pow_pos (by omega)
    have := Int.mul_le_mul_of_nonneg_left hp h6.1
    omega
theorem carryI.done {l out : List Int} {over : Int} {i : Nat} (h : carryI l out over i) (hi : l.length ≤ i) (hp : over ≤ 0) (hv : 0 ≤ vle l) : vle out = vle l := by
  obtain ⟨h1, h2, h3, h4, h5⟩ := h
  rw [List.drop_of_length_le hi] at h3
  simp only [vle, Int.add_zero] at h3
  have hlt := vle_lt out fun x hx => (h2 x hx).2
  rw [h1] at hlt
  by_cases h0 : over = 0
  · subst h0; rw [Int.mul_zero, Int.add_zero] at h3; exact h3
  · exfalso
    have hp2 : (0 : Int) < 256 ^ i := Int.pow_pos (by omega)
    have : 256 ^ i * over ≤ 256 ^ i * (-1) := Int.mul_le_mul_of_nonneg_left (by omega) (by omega)
    omega

/-- texts of one length are compared byte by byte -/
theorem val_lt_of_digit (p s t : List UInt8) (x y : UInt8) (hl : s.length = t.length) (h : x.toNat < y.toNat) : val (p ++ x :: s) < val (p ++ y :: t) := by
  rw [val_append, val_append, List.length_cons, List.length_cons, hl, val_cons, val_cons, hl]
  have h1 := val_lt s
  rw [hl] at h1
  have h2 : (x.toNat + 1) * 256 ^ t.length ≤ y.toNat * 256 ^ t.length := Nat.mul_le_mul_right _ h
  rw [Nat.add_mul] at h2
  omega
end Go.Proofs.Ytmcejefeloljiaa.Nm

/-
  Small laws for walks: a slice of ints, negative ones too, that the call itself made.
-/
namespace Go.Proofs.Ytmcejefeloljiaa
set_option linter.unusedVariables false
set_option linter.unusedSimpArgs false
open Go.RowKit

/-- The slice v, of numbers of kind k, owns the cells xs (from block B on). -/
def OwnI (w : World) (B : Nat) (E : TypeId) (k : IntKind) (v : Value) (xs : List Int) : Prop :=
  w.ownsRow B E 1 v xs.length (xs.map fun x => .int k x)

section
variable {w w' : World} {B : Nat} {E : TypeId} {k : IntKind} {v : Value} {xs : List Int}
theorem OwnI.shape (h : OwnI w B E k v xs) : ∃ oa cap, v = .slice oa xs.length cap ∧ (oa = none → xs = []) ∧ (∀ a, oa = some a → a = ⟨a.block, 0, none⟩ ∧ B ≤ a.block ∧ a.block < w.heap.size) ∧ xs.length ≤ cap ∧ cap ≤ maxLen := by
  rcases h.2 with ⟨rfl, hn⟩ | ⟨g, cap, cur, rfl, hb, hg, hle, hcm, _⟩
  · exact ⟨none, 0, by rw [hn], fun _ => List.eq_nil_of_length_eq_zero hn, (fun _ h => by cases h), by omega, by simp [maxLen]⟩
  · refine ⟨_, cap, rfl, (fun h => by cases h), (fun a h => ?_), hle, hcm⟩
    cases h
    exact ⟨rfl, hb, (Array.getElem?_eq_some_iff.1 hg).1⟩
/-- the slice's form, no more -/
theorem OwnI.shp (h : OwnI w B E k v xs) : ∃ oa cap, v = .slice oa xs.length cap ∧ xs.length ≤ cap ∧ cap ≤ 9223372036854775807 := by
  obtain ⟨oa, cap, hv, _, _, h1, h2⟩ := h.shape
  exact ⟨oa, cap, hv, h1, by simpa [maxLen] using h2⟩
theorem OwnI.cell {g n cap : Nat} (h : OwnI w B E k (.slice (some ⟨g, 0, none⟩) n cap) xs) (j : Nat) (hj : j < xs.length) :
    w.cell? ⟨g, j, none⟩ = some (.int k xs[j]) := by
  have hn : n = xs.length := by
    obtain ⟨oa, c, hv, _⟩ := h.shape
    cases hv; rfl
  subst hn
  rw [World.ownsRow.cellAt h j (by omega)]
  simp [hj]
theorem OwnI.frozen {g n cap : Nat} (h : OwnI w B E k (.slice (some ⟨g, 0, none⟩) n cap) xs) (j : Nat) : w.frozen? ⟨g, j, none⟩ = false := by
  have hn : n = xs.length := by
    obtain ⟨oa, c, hv, _⟩ := h.shape
    cases hv; rfl
  subst hn
  exact World.ownsRow.frozenAt h j
theorem OwnI.stored {g n cap : Nat} (h : OwnI w B E k (.slice (some ⟨g, 0, none⟩) n cap) xs) (j : Nat) (x : Int) :
    OwnI (w.setCell ⟨g, j, none⟩ (.int k x)) B E k (.slice (some ⟨g, 0, none⟩) n cap) (xs.set j x) ∧ w.grownBy (w.setCell ⟨g, j, none⟩ (.int k x)) (some g) := by
  have hn : n = xs.length := by
    obtain ⟨oa, c, hv, _⟩ := h.shape
    cases hv; rfl
  subst hn
  have := World.ownsRow.stored h j (.int k x)
  unfold OwnI
  rw [List.length_set, List.map_set]
  exact this
theorem OwnI.lt (h : OwnI w B E k v xs) : ∀ g, v.ownBlock = some g → B ≤ g ∧ g < w.heap.size := World.ownsRow.lt h
theorem OwnI.kept {row : Option Nat} (h : OwnI w B E k v xs) (hg : w.grownBy w' row) (hne : v.ownBlock = none ∨ v.ownBlock ≠ row) : OwnI w' B E k v xs :=
  World.ownsRow.kept h hg hne
theorem OwnI.alloc (h : OwnI w B E k v xs) (o : Obj) : OwnI (w.alloc o) B E k v xs := World.ownsRow.alloc h o
theorem OwnI.drew (h : OwnI w B E k v xs) : OwnI w.drew B E k v xs := h
theorem OwnI.drewN (h : OwnI w B E k v xs) (n : Nat) : OwnI (w.drewN n) B E k v xs := h
theorem OwnI.below (h : OwnI w B E k v xs) (hb : Below w.heap.size w w') : OwnI w' B E k v xs :=
  World.ownsRow.kept h (row := none) ⟨hb.os, hb.tape, hb.output, hb.size, fun i hi _ => hb.block i hi⟩ (by cases v.ownBlock <;> simp)
theorem OwnI.nil (w : World) (B : Nat) (E : TypeId) (k : IntKind) : OwnI w B E k (.slice none 0 0) [] := World.ownsRow_nil w B E 1
theorem OwnI.mono {B' : Nat} (h : OwnI w B E k v xs) (hB : B' ≤ B) : OwnI w B' E k v xs := by
  refine ⟨h.1, ?_⟩
  rcases h.2 with h2 | ⟨g, cap, cur, a, b, c⟩
  · exact .inl h2
  · exact .inr ⟨g, cap, cur, a, Nat.le_trans hB b, c⟩
theorem OwnI.made {n : Nat} {v : Value} (h : w.ownsRow B E 1 v n (madeCells #[.int k 0] n).toList) : OwnI w B E k v (List.replicate n 0) := by
  unfold OwnI
  rw [toList_madeCells_one] at h
  simpa using h
/-- cut at a shorter length -/
theorem OwnI.cut {oa : Option Addr} {n cap : Nat} (h : OwnI w B E k (.slice oa n cap) xs) (m : Nat) (hm : m ≤ xs.length) (hs : oa = none → m = 0) : OwnI w B E k (.slice oa m cap) (xs.take m) := by
  rcases h.2 with ⟨hv, hn⟩ | ⟨g, c, cur, hv, hb, hg, hle, hcm, hsz, htk⟩
  · cases hv
    have : m = 0 := hs rfl
    subst this
    simpa using OwnI.nil w B E k
  · cases hv
    have hl : (xs.take m).length = m := by rw [List.length_take]; omega
    refine ⟨by simp, .inr ⟨g, cap, cur, by rw [hl], hb, hg, by omega, hcm, hsz, ?_⟩⟩
    rw [hl, Nat.mul_one, List.map_take, ← htk, Nat.mul_one, List.take_take, Nat.min_eq_left hm]
end

/-- 'l = append(l, x)', l a slice of numbers of the call's own: the one element lies in a block just made. -/
theorem append1I {P : Program} (W : World) {ops : Array Oper} {rest : List Oper} {o : Oper} {a : Act} {Q : Exit → Act → World → Prop} (hgd : o.guard = none) (s x : Operand) (t : TypeId)
    (ho : o.op = .call { callee := .builtin .append, args := #[s, x], argTypes := #[t, t] })
    (B : Nat) (E : TypeId) (k : IntKind) (bytes : Nat) (hinfo : (P.info? E).map (fun i => (i.zero, i.size, i.bytes)) = some (some (.int k 0), 1, bytes)) (ht : P.underlying t = some (.slice E))
    (v : Value) (xs : List Int) (hown : OwnI W B E k v xs) (hs : a.eval s = v) (E' : TypeId) (z n : Int) (hz : z = n) (hx : a.eval x = .slice (some ⟨W.heap.size, 0, none⟩) 1 1)
    (hlen : xs.length + 1 ≤ 4294967296) (hb : bytes ≤ 8) (hB : B ≤ W.heap.size)
    (h : ∀ v' w', OwnI w' B E k v' (xs ++ [n]) → (W.alloc (.cells #[.int k z] E')).grownBy w' v.ownBlock → wpList P ops Q rest (a.put o.dst v') w') :
    wpList P ops Q (o :: rest) a (W.alloc (.cells #[.int k z] E')) := by
  obtain ⟨i, hi, h0, h1, h2⟩ := info_parts hinfo
  subst hz
  refine wpList_append_own _ hgd s x t ho B E i (.int k 0) 1 bytes ht hi h0 h1 h2 rfl (by decide) v xs.length _ hs (hown.alloc _) ⟨W.heap.size, 0, none⟩ 1 1 [.int k z] hx rfl (cell_one_new _ _ _) ?_ ?_ ?_ ?_ ?_
  · intro u hu; simp at hu; subst hu; rfl
  · unfold maxLen; omega
  · have : (xs.length + 1) * bytes ≤ 4294967296 * 8 := Nat.mul_le_mul hlen hb
    omega
  · simp; omega
  · intro v' w' h3 h4 _
    refine h v' w' ?_ h4
    unfold OwnI
    simpa using h3
theorem grown_belowI {B : Nat} {a W w' : World} {E' : TypeId} {u v : Value} {xs : List Int} {E : TypeId} {k : IntKind} (h : Below B a W) (hown : OwnI W B E k v xs) (hg : (W.alloc (.cells #[u] E')).grownBy w' v.ownBlock) (hB : B ≤ W.heap.size) : Below B a w' :=
  (h.alloc hB _).grown hg (by simp; omega) fun i hi => (hown.lt i hi).1
theorem OwnI.kept2 {w' W : World} {B : Nat} {E : TypeId} {k : IntKind} {v u : Value} {xs : List Int} {E' : TypeId} {z : Value} (h : OwnI W B E k v xs) (hg : (W.alloc (.cells #[z] E')).grownBy w' u.ownBlock) (hne : v.ownBlock = none ∨ v.ownBlock ≠ u.ownBlock) : OwnI w' B E k v xs :=
  (h.alloc _).kept hg hne

theorem OwnI.at {w : World} {B : Nat} {E : TypeId} {k : IntKind} {oa : Option Addr} {n cap : Nat} {xs : List Int} (h : OwnI w B E k (.slice oa n cap) xs) (hx : 0 < xs.length) : ∃ g, oa = some ⟨g, 0, none⟩ ∧ B ≤ g ∧ g < w.heap.size := by
  rcases h.2 with ⟨hv, hn⟩ | ⟨g, c, cur, hv, hb, hg, hle, hcm, hsz, htk⟩
  · omega
  · cases hv
    exact ⟨g, rfl, hb, (Array.getElem?_eq_some_iff.1 hg).1⟩
theorem OwnI.len {w : World} {B : Nat} {E : TypeId} {k : IntKind} {oa : Option Addr} {n cap : Nat} {xs : List Int} (h : OwnI w B E k (.slice oa n cap) xs) : n = xs.length := by
  obtain ⟨_, _, hv, _⟩ := h.shape
  cases hv; rfl

end Go.Proofs.Ytmcejefeloljiaa

/-
  The walks of the reference for naturals: Natural, Check, both, short, less, Compare.
-/
namespace Go.Proofs.Ytmcejefeloljiaa
set_option linter.unusedVariables false
set_option linter.unusedSimpArgs false
open Go.RowKit Nm

set_option maxHeartbeats 400000 in
theorem rNatural_any (s : ByteArray) (w : World) :
    Calls Try.prog 118 #[.string s] w fun e w' => e = .returned (.bool (isN s)) ∧ w = w' := by
  by_cases h0 : 0 < s.size
  · have h1 : s.toList.isEmpty = false := isEmpty_false h0
    go_enter Try.func118, Try.ntmps118
    go_wp2
    go_ret
    exact ⟨ret_bool (isN_pos h0).symm, rfl⟩
  · have h1 : s.toList.isEmpty = true := isEmpty_true h0
    go_enter Try.func118, Try.ntmps118
    go_wp2
    go_ret
    exact ⟨ret_bool (isN_nil h0).symm, rfl⟩

theorem chk1_no {s : ByteArray} (h : isN s = false) : chkN [s] = 60 := by simp [chkN, h]
theorem chk1_big {s : ByteArray} (h : isN s = true) (h2 : 256 < s.size) : chkN [s] = 2 := by simp [chkN, h]; omega
theorem chk1_ok {s : ByteArray} (h : isN s = true) (h2 : s.size ≤ 256) : chkN [s] = 0 := by simp [chkN, h]; omega
theorem chk2_no {a b : ByteArray} (h : isN a = false ∨ isN b = false) : chkN [a, b] = 60 := by rcases h with h | h <;> simp [chkN, h]
theorem chk2_big {a b : ByteArray} (h : isN a = true) (h' : isN b = true) (h2 : 256 < a.size ∨ 256 < b.size) : chkN [a, b] = 2 := by simp [chkN, h, h']; omega

set_option maxHeartbeats 400000 in
theorem rCheck_any (s : ByteArray) (w : World) (hs : s.size ≤ maxLen) :
    Calls Try.prog 61 #[.string s] w fun e w' => e = .returned (.int .i64 (chkN [s])) ∧ w = w' := by
  have hN := fun w => rNatural_any s w
  by_cases hn : isN s = true
  · by_cases h2 : s.size ≤ 256
    · rw [chk1_ok hn h2]
      rw [hn] at hN
      have HN := Lib.hid hN
      clear hn hN
      go_enter Try.func61, Try.ntmps61
      go_wp2_with fail
      refine (HN.out _).mono ?_
      rintro e w1 ⟨rfl, rfl⟩
      go_wp2_with fail
      go_ret
      exact ⟨rfl, rfl⟩
    · have h2 : 256 < s.size := by omega
      rw [chk1_big hn h2]
      rw [hn] at hN
      have HN := Lib.hid hN
      clear hn hN
      go_enter Try.func61, Try.ntmps61
      go_wp2_with fail
      refine (HN.out _).mono ?_
      rintro e w1 ⟨rfl, rfl⟩
      go_wp2_with fail
      go_ret
      exact ⟨rfl, rfl⟩
  · have hn : isN s = false := by simpa using hn
    rw [chk1_no hn]
    rw [hn] at hN
    have HN := Lib.hid hN
    clear hn hN
    go_enter Try.func61, Try.ntmps61
    go_wp2_with fail
    refine (HN.out _).mono ?_
    rintro e w1 ⟨rfl, rfl⟩
    go_wp2_with fail
    go_ret
    exact ⟨rfl, rfl⟩

-- GEN
set_option maxHeartbeats 400000 in
theorem both_1 (a b : ByteArray) (w : World) (ha : isN a = false) :
    Calls Try.prog 110 #[.string a, .string b] w fun e w' => e = .returned (.int .i64 60) ∧ w = w' := by
  have Ha := Lib.hid (fun w => by have h_ := rNatural_any a w; rw [ha] at h_; exact h_)
  clear ha
  go_enter Try.func110, Try.ntmps110
  go_wp2_with fail
  refine (Ha.out _).mono ?_
  rintro e w1 ⟨rfl, rfl⟩
  go_wp2_with fail
  go_ret
  exact ⟨rfl, rfl⟩

set_option maxHeartbeats 400000 in
theorem both_2 (a b : ByteArray) (w : World) (ha : isN a = true) (hb : isN b = false) :
    Calls Try.prog 110 #[.string a, .string b] w fun e w' => e = .returned (.int .i64 60) ∧ w = w' := by
  have Ha := Lib.hid (fun w => by have h_ := rNatural_any a w; rw [ha] at h_; exact h_)
  clear ha
  have Hb := Lib.hid (fun w => by have h_ := rNatural_any b w; rw [hb] at h_; exact h_)
  clear hb
  go_enter Try.func110, Try.ntmps110
  go_wp2_with fail
  refine (Ha.out _).mono ?_
  rintro e w1 ⟨rfl, rfl⟩
  go_wp2_with fail
  refine (Hb.out _).mono ?_
  rintro e w1 ⟨rfl, rfl⟩
  go_wp2_with fail
  go_ret
  exact ⟨rfl, rfl⟩

set_option maxHeartbeats 400000 in
theorem both_3 (a b : ByteArray) (w : World) (ha : isN a = true) (hb : isN b = true) (h1 : 256 < a.size) :
    Calls Try.prog 110 #[.string a, .string b] w fun e w' => e = .returned (.int .i64 2) ∧ w = w' := by
  have Ha := Lib.hid (fun w => by have h_ := rNatural_any a w; rw [ha] at h_; exact h_)
  clear ha
  have Hb := Lib.hid (fun w => by have h_ := rNatural_any b w; rw [hb] at h_; exact h_)
  clear hb
  go_enter Try.func110, Try.ntmps110
  go_wp2_with fail
  refine (Ha.out _).mono ?_
  rintro e w1 ⟨rfl, rfl⟩
  go_wp2_with fail
  refine (Hb.out _).mono ?_
  rintro e w1 ⟨rfl, rfl⟩
  go_wp2_with fail
  go_ret
  exact ⟨rfl, rfl⟩

set_option maxHeartbeats 400000 in
theorem both_4 (a b : ByteArray) (w : World) (ha : isN a = true) (hb : isN b = true) (h1 : a.size ≤ 256) (h2 : 256 < b.size) :
    Calls Try.prog 110 #[.string a, .string b] w fun e w' => e = .returned (.int .i64 2) ∧ w = w' := by
  have Ha := Lib.hid (fun w => by have h_ := rNatural_any a w; rw [ha] at h_; exact h_)
  clear ha
  have Hb := Lib.hid (fun w => by have h_ := rNatural_any b w; rw [hb] at h_; exact h_)
  clear hb
  go_enter Try.func110, Try.ntmps110
  go_wp2_with fail
  refine (Ha.out _).mono ?_
  rintro e w1 ⟨rfl, rfl⟩
  go_wp2_with fail
  refine (Hb.out _).mono ?_
  rintro e w1 ⟨rfl, rfl⟩
  go_wp2_with fail
  go_ret
  exact ⟨rfl, rfl⟩

set_option maxHeartbeats 400000 in
theorem both_5 (a b : ByteArray) (w : World) (ha : isN a = true) (hb : isN b = true) (h1 : a.size ≤ 256) (h2 : b.size ≤ 256) :
    Calls Try.prog 110 #[.string a, .string b] w fun e w' => e = .returned (.int .i64 0) ∧ w = w' := by
  have Ha := Lib.hid (fun w => by have h_ := rNatural_any a w; rw [ha] at h_; exact h_)
  clear ha
  have Hb := Lib.hid (fun w => by have h_ := rNatural_any b w; rw [hb] at h_; exact h_)
  clear hb
  go_enter Try.func110, Try.ntmps110
  go_wp2_with fail
  refine (Ha.out _).mono ?_
  rintro e w1 ⟨rfl, rfl⟩
  go_wp2_with fail
  refine (Hb.out _).mono ?_
  rintro e w1 ⟨rfl, rfl⟩
  go_wp2_with fail
  go_ret
  exact ⟨rfl, rfl⟩

theorem both_any (a b : ByteArray) (w : World) :
    Calls Try.prog 110 #[.string a, .string b] w fun e w' => e = .returned (.int .i64 (chkN [a, b])) ∧ w = w' := by
  by_cases ha : isN a = true
  · by_cases hb : isN b = true
    · by_cases h1 : a.size ≤ 256
      · by_cases h2 : b.size ≤ 256
        · rw [chk2_of ha hb h1 h2]; exact both_5 a b w ha hb h1 h2
        · rw [chk2_big ha hb (by omega)]; exact both_4 a b w ha hb h1 (by omega)
      · rw [chk2_big ha hb (by omega)]; exact both_3 a b w ha hb (by omega)
    · rw [chk2_no (by simp [hb])]; exact both_2 a b w ha (by simpa using hb)
  · rw [chk2_no (by simp [ha])]; exact both_1 a b w (by simpa using ha)

set_option maxHeartbeats 400000 in
theorem rshort_a (s : ByteArray) (w : World) (h : s.size ≤ 256) :
    Calls Try.prog 114 #[.string s] w fun e w' => e = .returned (.tuple #[.string (s, 0).1, .int .i64 (s, 0).2]) ∧ w = w' := by
  go_enter Try.func114, Try.ntmps114
  go_wp2_with fail
  go_ret2
  exact ⟨rfl, rfl⟩

set_option maxHeartbeats 400000 in
theorem rshort_b (s : ByteArray) (w : World) (h : 256 < s.size) :
    Calls Try.prog 114 #[.string s] w fun e w' => e = .returned (.tuple #[.string (bE, 2).1, .int .i64 (bE, 2).2]) ∧ w = w' := by
  go_enter Try.func114, Try.ntmps114
  go_wp2_with fail
  go_ret2
  exact ⟨rfl, rfl⟩

theorem rshort_any (n : Nat) (w : World) :
    Calls Try.prog 114 #[.string (encS n)] w fun e w' => e = .returned (.tuple #[.string (shortN n).1, .int .i64 (shortN n).2]) ∧ w = w' := by
  by_cases h : (encS n).size ≤ 256
  · rw [show shortN n = (encS n, 0) from if_pos h]; exact rshort_a _ w h
  · rw [show shortN n = (bE, 2) from if_neg h]; exact rshort_b _ w (by omega)

theorem drewN2 (w : World) (a b : Nat) : (w.drewN a).drewN b = w.drewN (a + b) := by unfold World.drewN; simp only [Nat.add_assoc]
theorem nv_lt_of_size {a b : ByteArray} (hb : isN b = true) (h : a.size < b.size) : nv a < nv b := by
  have h1 : nv a < 256 ^ a.size := by
    have := val_lt a.data.toList
    rw [sdata_length] at this
    exact this
  have h2 : (enc (nv b)).length = b.size := by
    have := congrArg ByteArray.size (encS_nv b hb)
    rw [size_encS] at this
    exact this
  apply Decidable.byContradiction
  intro hc
  have h3 := (enc_length_le (nv b) a.size).2 (by omega)
  omega
theorem nv_lt_of_byte {a b : ByteArray} (hs : a.size = b.size) (k : Nat) (ha : k < a.size) (hb : k < b.size) (ht : a.data.toList.take k = b.data.toList.take k) (h : a[k].toNat < b[k].toNat) : nv a < nv b := by
  have la := sdata_length a
  have lb := sdata_length b
  have e1 : a.data.toList = a.data.toList.take k ++ a[k] :: a.data.toList.drop (k + 1) := by
    conv => lhs; rw [← List.take_append_drop k a.data.toList, List.drop_eq_getElem_cons (by omega)]
    rfl
  have e2 : b.data.toList = b.data.toList.take k ++ b[k] :: b.data.toList.drop (k + 1) := by
    conv => lhs; rw [← List.take_append_drop k b.data.toList, List.drop_eq_getElem_cons (by omega)]
    rfl
  show val a.data.toList < val b.data.toList
  rw [e1, e2, ht]
  exact val_lt_of_digit _ _ _ _ _ (by rw [List.length_drop, List.length_drop]; omega) h
theorem take_same {a b : ByteArray} (k : Nat) (ha : k < a.size) (hb : k < b.size) (ht : a.data.toList.take k = b.data.toList.take k) (h : (a[k].toNat : Int) = (b[k].toNat : Int)) : a.data.toList.take (k + 1) = b.data.toList.take (k + 1) := by
  have la := sdata_length a
  have lb := sdata_length b
  rw [List.take_succ_eq_append_getElem (by omega), List.take_succ_eq_append_getElem (by omega), ht]
  congr 2
  show a[k] = b[k]
  exact UInt8.toNat_inj.1 (by omega)

set_option maxHeartbeats 1000000 in
theorem less_ref (a b : ByteArray) (w : World) (ha : isN a = true) (hb : isN b = true) (hsa : a.size ≤ maxLen) (hsb : b.size ≤ maxLen) :
    Calls Try.prog 121 #[.string a, .string b] w fun e w' => e = .returned (.bool (decide (nv a < nv b))) ∧ ∃ k, w' = w.drewN k := by
  unfold maxLen at hsa hsb
  by_cases hs : a.size = b.size
  · have HS := Lib.hid hs
    have i1 : a.size ≤ b.size := by omega
    have i2 : b.size ≤ a.size := by omega
    clear hs ha hb
    go_enter Try.func121, Try.ntmps121
    go_wp2_with fail
    go_loopw [5] (fun i wr => ∃ k : Nat, k ≤ a.size ∧ i = .int .i64 (k : Int) ∧ a.data.toList.take k = b.data.toList.take k ∧ ∃ nq, wr = w.drewN nq) (fun i _ => a.size - (intOf i).toNat)
    case atStart => exact ⟨0, Nat.zero_le _, rfl, rfl, 0, rfl⟩
    case round =>
      obtain ⟨k, hk, rfl, ht, nq, rfl⟩ := hrel
      have HT := Lib.hid ht; clear ht
      by_cases h0 : k < a.size
      · have h0b : k < b.size := by omega
        by_cases h1 : a[k].toNat < b[k].toNat
        · go_wp2_with fail
          go_quiet (fail)
          go_wp2_with fail
          go_quiet (fail)
          go_wp2_with fail
          go_wp2_with fail
          go_ret
          exact ⟨ret_bool (decide_eq_true (nv_lt_of_byte HS.out k h0 h0b HT.out h1)).symm, _, by rw [drewN2, drewN2]⟩
        · by_cases h2 : b[k].toNat < a[k].toNat
          · go_wp2_with fail
            go_quiet (fail)
            go_wp2_with fail
            go_quiet (fail)
            go_wp2_with fail
            go_wp2_with fail
            go_ret
            exact ⟨ret_bool (decide_eq_false (Nat.lt_asymm (nv_lt_of_byte HS.out.symm k h0b h0 HT.out.symm h2))).symm, _, by rw [drewN2, drewN2]⟩
          · go_wp2_with fail
            go_quiet (fail)
            go_wp2_with fail
            go_roundw
            case rel => exact ⟨k + 1, by omega, by go_num, take_same k h0 h0b HT.out (by omega), _, rfl⟩
            case measure => simp [intOf]; omega
      · go_wp2_with fail
        go_ret
        have e : a.data.toList = b.data.toList := by
          have h := HT.out
          have la := sdata_length a
          have lb := sdata_length b
          rw [List.take_of_length_le (by omega), List.take_of_length_le (by omega)] at h
          exact h
        exact ⟨ret_bool (decide_eq_false (by show ¬ val a.data.toList < val b.data.toList; rw [e]; omega)).symm, nq, rfl⟩
  · by_cases h1 : a.size < b.size
    · have hl := Lib.hid (nv_lt_of_size hb h1)
      clear hs ha hb
      go_enter Try.func121, Try.ntmps121
      go_wp2_with fail
      go_ret
      exact ⟨ret_bool (by rw [decide_eq_true hl.out]), 0, rfl⟩
    · have h1 : b.size < a.size := by omega
      have hl := Lib.hid (nv_lt_of_size ha h1)
      clear hs ha hb
      go_enter Try.func121, Try.ntmps121
      go_wp2_with fail
      go_ret
      exact ⟨ret_bool (by rw [decide_eq_false (Nat.lt_asymm hl.out)]), 0, rfl⟩

end Go.Proofs.Ytmcejefeloljiaa

/-
  The walks of the reference for naturals: Compare, Of, Int.
-/
namespace Go.Proofs.Ytmcejefeloljiaa
set_option linter.unusedVariables false
set_option linter.unusedSimpArgs false
open Go.RowKit Nm

theorem cmp_cases (a b : ByteArray) (h : chkN [a, b] = 0) :
    (nv a < nv b ∧ cmpF a b = (-1, 0)) ∨ (¬ nv a < nv b ∧ nv b < nv a ∧ cmpF a b = (1, 0)) ∨ (¬ nv a < nv b ∧ ¬ nv b < nv a ∧ cmpF a b = (0, 0)) := by
  unfold cmpF
  rw [if_pos h]
  by_cases h1 : nv a < nv b
  · exact Or.inl ⟨h1, by rw [cmpN_lt h1]⟩
  · by_cases h2 : nv b < nv a
    · exact Or.inr (Or.inl ⟨h1, h2, by rw [cmpN_gt h2]⟩)
    · exact Or.inr (Or.inr ⟨h1, h2, by rw [cmpN_eq (by omega)]⟩)

set_option maxHeartbeats 1000000 in
theorem rCompare_any (a b : ByteArray) (w : World) (hsa : a.size ≤ maxLen) (hsb : b.size ≤ maxLen) :
    Calls Try.prog 65 #[.string a, .string b] w fun e w' => e = .returned (.tuple #[.int .i64 (cmpF a b).1, .int .i64 (cmpF a b).2]) ∧ ∃ k, w' = w.drewN k := by
  have h_ := fun w => both_any a b w
  by_cases h : chkN [a, b] = 0
  · obtain ⟨n1, n2, s1, s2⟩ := chk2_zero h
    rw [h] at h_
    have HB := Lib.hid h_
    have l1 := fun w => less_ref a b w n1 n2 hsa hsb
    have l2 := fun w => less_ref b a w n2 n1 hsb hsa
    obtain ⟨c1, e⟩ | ⟨c1, c2, e⟩ | ⟨c1, c2, e⟩ := cmp_cases a b h
    · rw [e]
      rw [decide_eq_true c1] at l1
      have L1 := Lib.hid l1
      clear l1 l2 h_ h e c1 n1 n2 s1 s2
      go_enter Try.func65, Try.ntmps65
      go_wp2_with fail
      refine (HB.out _).mono ?_
      rintro e w1 ⟨rfl, rfl⟩
      go_wp2_with fail
      refine (L1.out _).mono ?_
      rintro e w1 ⟨rfl, k, rfl⟩
      go_wp2_with fail
      go_ret2
      exact ⟨rfl, _, rfl⟩
    · rw [e]
      rw [decide_eq_false c1] at l1
      rw [decide_eq_true c2] at l2
      have L1 := Lib.hid l1
      have L2 := Lib.hid l2
      clear l1 l2 h_ h e c1 c2 n1 n2 s1 s2
      go_enter Try.func65, Try.ntmps65
      go_wp2_with fail
      refine (HB.out _).mono ?_
      rintro e w1 ⟨rfl, rfl⟩
      go_wp2_with fail
      refine (L1.out _).mono ?_
      rintro e w1 ⟨rfl, k, rfl⟩
      go_wp2_with fail
      refine (L2.out _).mono ?_
      rintro e w1 ⟨rfl, k', rfl⟩
      go_wp2_with fail
      go_ret2
      exact ⟨rfl, _, rfl⟩
    · rw [e]
      rw [decide_eq_false c1] at l1
      rw [decide_eq_false c2] at l2
      have L1 := Lib.hid l1
      have L2 := Lib.hid l2
      clear l1 l2 h_ h e c1 c2 n1 n2 s1 s2
      go_enter Try.func65, Try.ntmps65
      go_wp2_with fail
      refine (HB.out _).mono ?_
      rintro e w1 ⟨rfl, rfl⟩
      go_wp2_with fail
      refine (L1.out _).mono ?_
      rintro e w1 ⟨rfl, k, rfl⟩
      go_wp2_with fail
      refine (L2.out _).mono ?_
      rintro e w1 ⟨rfl, k', rfl⟩
      go_wp2_with fail
      go_ret2
      exact ⟨rfl, _, rfl⟩
  · have E : Hid (cmpF a b = (0, chkN [a, b])) := Lib.hid (if_neg h)
    have HB := Lib.hid h_
    have h2 : (chkN [a, b] != 0) = true := by simpa using h
    clear h_ h
    go_enter Try.func65, Try.ntmps65
    go_wp2_with fail
    refine (HB.out _).mono ?_
    rintro e w1 ⟨rfl, rfl⟩
    go_wp2_with fail
    go_ret2
    exact ⟨by rw [E.out]; rfl, 0, rfl⟩

theorem enc_len8 {n : Nat} (h : n < 9223372036854775808) : (enc n).length ≤ 8 := by
  rw [enc_length_le]
  exact Nat.lt_trans h (by decide)

theorem str1 {P : Program} (w : World) (x : Nat) (z : Int) (hz : z = (x : Int)) (_hx : x < 256) (src dst E : TypeId) (hs : P.underlying src = some (.slice E)) (he : P.underlying E = some (.int .u8)) (hd : P.underlying dst = some .string) :
    (convert src dst (.slice (some ⟨w.heap.size, 0, none⟩) 1 1)).run P (w.alloc (.cells #[.int .u8 z] E)) = .ok (.string ⟨#[UInt8.ofNat x]⟩) (w.alloc (.cells #[.int .u8 z] E)) := by
  subst hz
  rw [run_convert_bytes_arg (P := P) _ src E hs he w.heap.size 0 1 1 [((x : Nat) : Int)] (by simp) (fun i hi => by
    obtain rfl : i = 0 := by simp at hi; omega
    exact cell_one_new _ _ _ 0 _ rfl) dst hd]
  simp [strOfNums]

set_option maxHeartbeats 1000000 in
theorem rOf_any (n : Int) (w : World) (h1 : -9223372036854775808 ≤ n) (h2 : n ≤ 9223372036854775807) :
    Calls Try.prog 104 #[.int .i64 n] w fun e w' => e = .returned (.tuple #[.string (ofF n).1, .int .i64 (ofF n).2]) ∧ Below w.heap.size w w' := by
  by_cases hn : n < 0
  · have E : Hid (ofF n = (bE, 1)) := Lib.hid (if_pos hn)
    go_enter Try.func104, Try.ntmps104
    go_wp2_with fail
    go_ret2
    exact ⟨by rw [E.out]; rfl, Below.refl _ _⟩
  · obtain ⟨N, rfl⟩ := Int.eq_ofNat_of_zero_le (show 0 ≤ n by omega)
    have E : Hid (ofF ↑N = (encS N, 0)) := Lib.hid (by rw [ofF, if_neg (by omega)]; rfl)
    have h8 := enc_len8 (show N < 9223372036854775808 by omega)
    have H8 := Lib.hid h8
    clear h8
    go_enter Try.func104, Try.ntmps104
    go_wp2_with fail
    go_loopw [4, 0] (fun s n wr => ∃ (m : Nat) (t : ByteArray), m ≤ N ∧ n = .int .i64 (m : Int) ∧ s = .string t ∧ enc m ++ t.data.toList = enc N ∧ Below w.heap.size w wr) (fun _ n _ => (intOf n).toNat)
    case atStart => exact ⟨N, ⟨#[]⟩, Nat.le_refl _, rfl, rfl, by simp, Below.refl _ _⟩
    case round =>
      obtain ⟨m, t, hm, rfl, rfl, he, hbl⟩ := hrel
      have HE := Lib.hid he; clear he
      by_cases h0 : 0 < m
      · have hsz : t.size ≤ 8 := by
          have h := congrArg List.length HE.out
          rw [List.length_append, sdata_length] at h
          have := H8.out
          omega
        have hcv := fun d hd => str1 (P := Try.prog) wr (m % 256) ((m : Int) % 256) (by omega) (by omega) 149 d 5 Try.underlying149 Try.underlying5 hd
        go_wp2_with fail
        go_roundw
        case rel =>
          refine ⟨m / 256, _, by omega, by rw [show ((m / 256 : Nat) : Int) = (m : Int) / 256 by omega], rfl, ?_, hbl.alloc hbl.size _⟩
          have h := HE.out
          rw [enc_pos m h0, List.append_assoc] at h
          rw [← h]
          simp
        case measure => simp [intOf]; omega
      · obtain rfl : m = 0 := by omega
        have e : encS N = t := by
          have h := HE.out
          rw [enc_zero, List.nil_append] at h
          show (⟨(enc N).toArray⟩ : ByteArray) = t
          rw [← h]
        go_wp2_with fail
        go_ret2
        exact ⟨by rw [E.out, e]; rfl, hbl⟩

theorem head_big {s : ByteArray} (h8 : s.size = 8) : (128 ≤ s[0].toNat ↔ ¬ nv s < 9223372036854775808) := by
  have e : s.data.toList = s[0] :: s.data.toList.drop 1 := by
    have := sdata_length s
    conv => lhs; rw [← List.take_append_drop 1 s.data.toList]
    rw [List.take_succ_eq_append_getElem (by omega)]
    rfl
  have l : (s.data.toList.drop 1).length = 7 := by
    rw [List.length_drop, sdata_length]; omega
  have hv : nv s = s[0].toNat * 256 ^ 7 + val (s.data.toList.drop 1) := by
    show val s.data.toList = _
    rw [e, val_cons, l]
    simp
  have h1 := val_lt (s.data.toList.drop 1)
  rw [l] at h1
  have e7 : 256 ^ 7 = 72057594037927936 := by decide
  rw [e7] at h1 hv
  omega
theorem size_small {s : ByteArray} (h : s.size < 8) : nv s < 9223372036854775808 := by
  have h1 := val_lt s.data.toList
  rw [sdata_length] at h1
  have : 256 ^ s.size ≤ 256 ^ 7 := Nat.pow_le_pow_right (by omega) (by omega)
  have e7 : 256 ^ 7 = 72057594037927936 := by decide
  show val s.data.toList < _
  omega
theorem val_take_succ {s : ByteArray} (k : Nat) (h : k < s.size) : val (s.data.toList.take (k + 1)) = val (s.data.toList.take k) * 256 + s[k].toNat := by
  rw [List.take_succ_eq_append_getElem (by rw [sdata_length]; exact h), val_snoc]
  rfl
theorem val_take_le {s : ByteArray} (k : Nat) : val (s.data.toList.take k) ≤ nv s := by
  show _ ≤ val s.data.toList
  conv => rhs; rw [← List.take_append_drop k s.data.toList, val_append]
  have : 1 ≤ 256 ^ (s.data.toList.drop k).length := Nat.pow_pos (by omega)
  have := Nat.mul_le_mul_left (val (s.data.toList.take k)) this
  omega

set_option maxRecDepth 8000 in
set_option maxHeartbeats 1000000 in
theorem rInt_no (s : ByteArray) (w : World) (hs : s.size ≤ maxLen) (h : isN s = false ∨ (isN s = true ∧ (8 < s.size ∨ (s.size = 8 ∧ 128 ≤ s[0]!.toNat)))) :
    Calls Try.prog 117 #[.string s] w fun e w' => e = .returned (.tuple #[.int .i64 0, .bool false]) ∧ w = w' := by
  have h_ := fun w => rNatural_any s w
  unfold maxLen at hs
  rcases h with h | ⟨h, h1 | ⟨h1, h2⟩⟩
  · rw [h] at h_
    have HN := Lib.hid h_
    clear h_ h
    go_enter Try.func117, Try.ntmps117
    go_wp2_with fail
    refine (HN.out _).mono ?_
    rintro e w1 ⟨rfl, rfl⟩
    go_wp2_with fail
    go_ret2
    exact ⟨rfl, rfl⟩
  · rw [h] at h_
    have HN := Lib.hid h_
    clear h_ h
    go_enter Try.func117, Try.ntmps117
    go_wp2_with fail
    refine (HN.out _).mono ?_
    rintro e w1 ⟨rfl, rfl⟩
    go_wp2_with fail
    go_ret2
    exact ⟨rfl, rfl⟩
  · rw [h] at h_
    have HN := Lib.hid h_
    clear h_ h
    have i1 : s.size ≤ 8 := by omega
    have i2 : 8 ≤ s.size := by omega
    have i3 : 0 < s.size := by omega
    have h2' : 128 ≤ (s[0]'i3).toNat := by
      have : s[0]! = s[0]'i3 := by simp [i3]
      rw [← this]; exact h2
    clear h2 h1
    go_enter Try.func117, Try.ntmps117
    go_wp2_with fail
    refine (HN.out _).mono ?_
    rintro e w1 ⟨rfl, rfl⟩
    go_wp2_with fail
    go_ret2
    exact ⟨rfl, rfl⟩

set_option maxRecDepth 8000 in
set_option maxHeartbeats 1000000 in
theorem rInt_yes (s : ByteArray) (w : World) (h : isN s = true) (h8 : s.size ≤ 8) (hv : nv s < 9223372036854775808) :
    Calls Try.prog 117 #[.string s] w fun e w' => e = .returned (.tuple #[.int .i64 ((nv s : Nat) : Int), .bool true]) ∧ w = w' := by
  have h_ := fun w => rNatural_any s w
  rw [h] at h_
  have HN := Lib.hid h_
  by_cases h1 : s.size < 8
  · clear h8
    have HV := Lib.hid hv
    clear h_ h hv
    go_enter Try.func117, Try.ntmps117
    go_wp2_with fail
    refine (HN.out _).mono ?_
    rintro e w1 ⟨rfl, rfl⟩
    go_wp2_with fail
    go_loopw [4, 5] (fun n i wr => ∃ k x : Nat, k ≤ s.size ∧ n = .int .i64 (x : Int) ∧ i = .int .i64 (k : Int) ∧ x = val (s.data.toList.take k) ∧ w = wr) (fun _ i _ => s.size - (intOf i).toNat)
    case atStart => exact ⟨0, 0, Nat.zero_le _, rfl, rfl, by simp [val_nil], rfl⟩
    case round =>
      obtain ⟨k, x, hk, rfl, rfl, hx, rfl⟩ := hrel
      have HX := Lib.hid hx
      clear hx
      by_cases h0 : k < s.size
      · have HS : Hid (256 * x + s[k].toNat = val (s.data.toList.take (k + 1))) := Lib.hid (by rw [val_take_succ k h0, ← HX.out, Nat.mul_comm])
        have hl : 256 * x + s[k].toNat < 9223372036854775808 := Nat.lt_of_le_of_lt (by rw [HS.out]; exact val_take_le (k + 1)) HV.out
        have hl2 : 256 * (x : Int) + (s[k].toNat : Int) < 9223372036854775808 := by omega
        clear hl
        go_wp2_with fail
        go_roundw
        case rel => exact ⟨k + 1, 256 * x + s[k].toNat, by omega, by go_num, by go_num, HS.out, trivial⟩
        case measure => simp [intOf]; omega
      · go_wp2_with fail
        go_ret2
        have e : x = nv s := by
          rw [HX.out, List.take_of_length_le (by rw [sdata_length]; omega)]
          rfl
        exact ⟨by rw [← e]; rfl, rfl⟩
  · have i2 : 8 ≤ s.size := by omega
    have i3 : 0 < s.size := by omega
    have h2 : (s[0]'i3).toNat < 128 := by
      have := head_big (s := s) (by omega)
      omega
    clear h1
    have HV := Lib.hid hv
    clear h_ h hv
    go_enter Try.func117, Try.ntmps117
    go_wp2_with fail
    refine (HN.out _).mono ?_
    rintro e w1 ⟨rfl, rfl⟩
    go_wp2_with fail
    generalize (s[0]'i3).toNat = b0 at *
    rename_i q1 q2 q3 q4 q5
    clear q2 h8
    go_loopw [4, 5] (fun n i wr => ∃ k x : Nat, k ≤ s.size ∧ n = .int .i64 (x : Int) ∧ i = .int .i64 (k : Int) ∧ x = val (s.data.toList.take k) ∧ w = wr) (fun _ i _ => s.size - (intOf i).toNat)
    case atStart => exact ⟨0, 0, Nat.zero_le _, rfl, rfl, by simp [val_nil], rfl⟩
    case round =>
      obtain ⟨k, x, hk, rfl, rfl, hx, rfl⟩ := hrel
      have HX := Lib.hid hx
      clear hx
      by_cases h0 : k < s.size
      · have HS : Hid (256 * x + s[k].toNat = val (s.data.toList.take (k + 1))) := Lib.hid (by rw [val_take_succ k h0, ← HX.out, Nat.mul_comm])
        have hl : 256 * x + s[k].toNat < 9223372036854775808 := Nat.lt_of_le_of_lt (by rw [HS.out]; exact val_take_le (k + 1)) HV.out
        have hl2 : 256 * (x : Int) + (s[k].toNat : Int) < 9223372036854775808 := by omega
        clear hl
        go_wp2_with fail
        go_roundw
        case rel => exact ⟨k + 1, 256 * x + s[k].toNat, by omega, by go_num, by go_num, HS.out, trivial⟩
        case measure => simp [intOf]; omega
      · go_wp2_with fail
        go_ret2
        have e : x = nv s := by
          rw [HX.out, List.take_of_length_le (by rw [sdata_length]; omega)]
          rfl
        exact ⟨by rw [← e]; rfl, rfl⟩

set_option maxRecDepth 8000 in
theorem rInt_any (s : ByteArray) (w : World) (hs : s.size ≤ maxLen) :
    Calls Try.prog 117 #[.string s] w fun e w' => e = .returned (.tuple #[.int .i64 (intF s).1, .bool (intF s).2]) ∧ w = w' := by
  by_cases h : isN s = true ∧ s.size ≤ 8 ∧ nv s < 9223372036854775808
  · rw [show intF s = (((nv s : Nat) : Int), true) from if_pos h]
    exact rInt_yes s w h.1 h.2.1 h.2.2
  · rw [show intF s = (0, false) from if_neg h]
    refine rInt_no s w hs ?_
    by_cases hn : isN s = true
    · refine Or.inr ⟨hn, ?_⟩
      by_cases h8 : 8 < s.size
      · exact Or.inl h8
      · have hv : ¬ nv s < 9223372036854775808 := fun hv => h ⟨hn, by omega, hv⟩
        by_cases h9 : s.size < 8
        · exact absurd (size_small h9) hv
        · have h10 : s.size = 8 := by omega
          refine Or.inr ⟨h10, ?_⟩
          have i3 : 0 < s.size := by omega
          have : s[0]! = s[0]'i3 := by simp [i3]
          rw [this]
          exact (head_big h10).2 hv
    · exact Or.inl (by simpa using hn)

end Go.Proofs.Ytmcejefeloljiaa

/-
  The walks of the reference for naturals: digits, at, number, carry.
-/
namespace Go.Proofs.Ytmcejefeloljiaa
set_option linter.unusedVariables false
set_option linter.unusedSimpArgs false
open Go.RowKit Nm

theorem info_i64 : (Try.prog.info? 3).map (fun i => (i.zero, i.size, i.bytes)) = some (some (.int .i64 0), 1, 8) := by kernel_rfl
abbrev OwnZ (w : World) (B : Nat) (v : Value) (xs : List Int) : Prop := OwnI w B 3 .i64 v xs

theorem OwnZ.lit0 (w : World) : OwnZ (w.alloc (.cells #[] 3)) w.heap.size (.slice (some ⟨w.heap.size, 0, none⟩) 0 0) [] := by
  have h := World.ownsRow_lit (base := w.heap.size) (e := 3) (size := 1) w #[] 0 (Nat.le_refl _) (by simp [maxLen]) rfl
  exact h

theorem wrapB (b : UInt8) : wrap64 ((b.toNat : Nat) : Int) = ((b.toNat : Nat) : Int) := by
  have := b.toNat_lt
  unfold wrap64
  omega

set_option maxHeartbeats 1000000 in
theorem digits_any (s : ByteArray) (w : World) (hs : s.size ≤ 4096) :
    Calls Try.prog 112 #[.string s] w fun e w' => ∃ v, e = .returned v ∧ OwnZ w' w.heap.size v (dgi s.data.toList) ∧ Below w.heap.size w w' := by
  go_enter Try.func112, Try.ntmps112
  go_wp2_with fail
  go_loopw [3, 4] (fun l i wr => ∃ k : Nat, k ≤ s.size ∧ i = .int .i64 ((k : Int) - 1) ∧ OwnZ wr w.heap.size l (dgi (s.data.toList.drop k)) ∧ Below w.heap.size w wr) (fun _ i _ => (intOf i + 1).toNat)
  case atStart =>
    refine ⟨s.size, Nat.le_refl _, rfl, ?_, (Below.refl _ _).alloc (Nat.le_refl _) _⟩
    rw [List.drop_of_length_le (by rw [sdata_length]; omega)]
    exact OwnZ.lit0 w
  case round =>
    obtain ⟨k, hk, rfl, hown, hbl⟩ := hrel
    by_cases h0 : 0 < k
    · have hl := length_dgi (s.data.toList.drop k)
      rw [List.length_drop, sdata_length] at hl
      have hd := dgi_drop s.data.toList (k - 1) (by rw [sdata_length]; omega)
      rw [show k - 1 + 1 = k by omega] at hd
      generalize dgi (s.data.toList.drop k) = xs at *
      have HD := Lib.hid hd
      have hl2 : xs.length + 1 ≤ 4294967296 := by omega
      clear hd hl
      obtain ⟨ol, cl, hlv, hcl, hclm⟩ := hown.shp
      subst hlv
      go_wp2_with (at_builtin; refine append1I wr rfl _ _ 164 rfl w.heap.size 3 .i64 8 info_i64 Try.underlying164 _ xs hown rfl _ _ _ (wrapB _) rfl hl2 (by omega) hbl.size ?_)
      intro l' w4 hown' hgrow
      have hbl2 := grown_belowI hbl hown hgrow hbl.size
      clear hgrow hown hbl
      go_wp2_with fail
      go_roundw
      case rel => exact ⟨k - 1, by omega, by rw [show ((k - 1 : Nat) : Int) = (k : Int) - 1 by omega], by rw [HD.out]; exact hown', hbl2⟩
      case measure => simp [intOf]; omega
    · obtain rfl : k = 0 := by omega
      go_wp2_with fail
      go_ret
      exact ⟨_, rfl, hown, hbl⟩

set_option maxHeartbeats 400000 in
theorem at_any (B : Nat) (v : Value) (xs : List Int) (i : Nat) (w : World) (hown : OwnZ w B v xs) (hi : i ≤ 1048576) :
    Calls Try.prog 113 #[v, .int .i64 (i : Int)] w fun e w' => e = .returned (.int .i64 (xs.getD i 0)) ∧ w = w' := by
  obtain ⟨oa, cap, rfl, hc1, hc2⟩ := hown.shp
  by_cases h : i < xs.length
  · obtain ⟨g, rfl, hg1, hg2⟩ := OwnI.at hown (by omega)
    have hc := hown.cell i h
    have e : xs.getD i 0 = xs[i] := by simp [List.getD, h]
    rw [e]
    generalize xs[i] = x at *
    clear e hown
    go_enter Try.func113, Try.ntmps113
    go_wp2_with fail
    go_ret
    exact ⟨rfl, rfl⟩
  · have e : xs.getD i 0 = 0 := by simp [List.getD, List.getElem?_eq_none (by omega : xs.length ≤ i)]
    rw [e]
    clear e hown
    go_enter Try.func113, Try.ntmps113
    go_wp2_with fail
    go_ret
    exact ⟨rfl, rfl⟩

theorem num_step (xs : List Int) (hr : ∀ x ∈ xs, 0 ≤ x ∧ x < 256) (j : Nat) (h0 : 0 < j) (hj : j ≤ xs.length) (x : Int) (hx : xs[j - 1] = x) (hne : x ≠ 0 ∨ 0 < vle (xs.drop j)) :
    enc (vle (xs.drop (j - 1))).toNat = enc (vle (xs.drop j)).toNat ++ [UInt8.ofNat x.toNat] ∧ 0 < vle (xs.drop (j - 1)) := by
  have h1 := vle_drop xs (j - 1) (by omega)
  rw [show j - 1 + 1 = j by omega, hx] at h1
  have h2 := vle_nonneg (xs.drop j) fun y hy => (hr y (List.mem_of_mem_drop hy)).1
  have h3 := hr _ (List.getElem_mem (show j - 1 < xs.length by omega))
  rw [hx] at h3
  rw [h1]
  have e := enc_step (vle (xs.drop j)).toNat x.toNat (by omega)
  rw [if_neg (by omega)] at e
  rw [← e]
  refine ⟨by congr 1; omega, by omega⟩
theorem enc_len_vle (xs : List Int) (hr : ∀ x ∈ xs, 0 ≤ x ∧ x < 256) : (enc (vle xs).toNat).length ≤ xs.length := by
  rw [enc_length_le]
  have h1 := vle_lt xs fun x hx => (hr x hx).2
  have h2 := vle_nonneg xs fun x hx => (hr x hx).1
  have h3 : (256 : Int) ^ xs.length = ((256 ^ xs.length : Nat) : Int) := by rw [Int.natCast_pow]; rfl
  rw [h3] at h1
  omega

theorem OwnB.lit0 (w : World) : OwnB (w.alloc (.cells #[] 5)) w.heap.size (.slice (some ⟨w.heap.size, 0, none⟩) 0 0) [] := by
  have h := World.ownsRow_lit (base := w.heap.size) (e := 5) (size := 1) w #[] 0 (Nat.le_refl _) (by simp [maxLen]) rfl
  exact h
theorem encS0_eq' : encS 0 = ⟨#[]⟩ := by rw [← bE_encS]; rfl

set_option maxHeartbeats 2000000 in
theorem number_any (B : Nat) (v : Value) (xs : List Int) (w : World) (hown : OwnZ w B v xs) (hr : ∀ x ∈ xs, 0 ≤ x ∧ x < 256) (hl : xs.length ≤ 65536) :
    Calls Try.prog 115 #[v] w fun e w' => e = .returned (.string (encS (vle xs).toNat)) ∧ Below w.heap.size w w' := by
  obtain ⟨oa, cap, rfl, hc1, hc2⟩ := hown.shp
  have HO := Lib.hid hown
  have HR := Lib.hid hr
  clear hown hr
  go_enter Try.func115, Try.ntmps115
  go_wp2_with fail
  go_loopw [3] (fun n wr => ∃ k : Nat, k ≤ xs.length ∧ n = .int .i64 (k : Int) ∧ vle (xs.drop k) = 0 ∧ w = wr) (fun n _ => (intOf n).toNat)
  case atStart => exact ⟨xs.length, Nat.le_refl _, rfl, by rw [List.drop_length]; rfl, rfl⟩
  case round =>
    obtain ⟨k, hk, rfl, hz, rfl⟩ := hrel
    have HZ := Lib.hid hz
    clear hz
    by_cases h0 : 0 < k
    · obtain ⟨g, rfl, hg1, hg2⟩ := OwnI.at HO.out (by omega)
      have hc := OwnI.cell HO.out (k - 1) (by omega)
      have hxr := HR.out _ (List.getElem_mem (show k - 1 < xs.length by omega))
      generalize hx : xs[k - 1] = x at hc hxr
      have HX := Lib.hid hx
      clear hx
      obtain ⟨x1, x2⟩ := hxr
      by_cases hx0 : x ≤ 0
      · obtain rfl : x = 0 := by omega
        go_wp2_with fail
        go_roundw
        case rel =>
          refine ⟨k - 1, by omega, by rw [show ((k - 1 : Nat) : Int) = (k : Int) - 1 by omega], ?_, trivial⟩
          have h1 := vle_drop xs (k - 1) (by omega)
          rw [show k - 1 + 1 = k by omega, HX.out, HZ.out] at h1
          exact h1
        case measure => simp [intOf]; omega
      · have hx1 : 0 < x := by omega
        have hx3 : (x == 0) = false := by
          rw [beq_eq_false_iff_ne]
          omega
        clear hx0
        go_wp2_with fail
        go_loopw [4, 5] (fun b i wr => ∃ j : Nat, j ≤ k ∧ i = .int .i64 ((j : Int) - 1) ∧ (j = k ∨ 0 < vle (xs.drop j)) ∧ OwnB wr w.heap.size b (enc (vle (xs.drop j)).toNat) ∧ Below w.heap.size w wr) (fun _ i _ => (intOf i + 1).toNat)
        case atStart =>
          refine ⟨k, Nat.le_refl _, rfl, Or.inl rfl, ?_, (Below.refl _ _).alloc (Nat.le_refl _) _⟩
          rw [HZ.out]
          exact OwnB.lit0 w
        case round =>
          obtain ⟨j, hj, rfl, hor, hb, hbl⟩ := hrel
          by_cases hj0 : 0 < j
          · have hjl : j - 1 < xs.length := by omega
            have hcj := OwnI.cell (OwnI.kept HO.out (row := none) ⟨hbl.os, hbl.tape, hbl.output, hbl.size, fun i hi _ => hbl.block i hi⟩ (by simp [Value.ownBlock])) (j - 1) hjl
            have hyr := HR.out _ (List.getElem_mem hjl)
            have hstep := fun (y : Int) (hy : xs[j - 1] = y) (hy0 : 0 ≤ y) => num_step xs HR.out j hj0 (by omega) y hy (by
              rcases hor with rfl | h
              · left
                have := HX.out
                rw [hy] at this
                omega
              · exact Or.inr h)
            have hlen := Nat.le_trans (enc_len_vle (xs.drop j) fun x hx => HR.out x (List.mem_of_mem_drop hx)) (by rw [List.length_drop]; exact Nat.sub_le _ _)
            generalize hy : xs[j - 1] = y at hcj hyr
            have hst := hstep y hy (by omega)
            have hy2 : ((y.toNat : Nat) : Int) = y := by omega
            obtain ⟨y1, y2⟩ := hyr
            have hyw : ((UInt8.ofNat y.toNat).toNat : Int) = y := by
              have : (UInt8.ofNat y.toNat).toNat = y.toNat := by simp; omega
              omega
            generalize enc (vle (xs.drop j)).toNat = bs at *
            have HST := Lib.hid hst
            have HYW := Lib.hid hyw
            have hl2 : (bs.map UInt8.toNat).length + 1 ≤ 4294967296 := by rw [List.length_map]; omega
            clear hst hyw hy2 hstep hy hor hlen
            obtain ⟨ob, cb, hv, hcb, hcbm⟩ := hb.shp
            rw [List.length_map] at hv hcb
            subst hv
            go_wp2_with (at_builtin; refine append1 wr rfl _ _ 149 rfl w.heap.size 5 .u8 1 info_u8 Try.underlying149 _ (bs.map UInt8.toNat) hb rfl _ _ (UInt8.ofNat y.toNat).toNat HYW.out.symm rfl hl2 (by omega) hbl.size ?_)
            intro v' w1 hown' hgrow
            have hbl1 := grown_below hbl hb hgrow hbl.size
            clear hb hgrow hbl
            go_wp2_with fail
            go_roundw
            case rel => exact ⟨j - 1, by omega, by rw [show ((j - 1 : Nat) : Int) = (j : Int) - 1 by omega], Or.inr HST.out.2, by rw [HST.out.1]; unfold OwnB; simpa using hown', hbl1⟩
            case measure => simp [intOf]; omega
          · obtain rfl : j = 0 := by omega
            rw [List.drop_zero] at hb
            have hcv := fun d hd => OwnN.str (P := Try.prog) hb 149 d Try.underlying149 Try.underlying5 hd
            go_wp2_with fail
            go_ret
            exact ⟨rfl, hbl⟩
    · obtain rfl : k = 0 := by omega
      have e : vle xs = 0 := by have := HZ.out; rw [List.drop_zero] at this; exact this
      have HE := Lib.hid e
      have hb := OwnB.lit0 w
      have hcv := fun d hd => OwnN.str (P := Try.prog) (bs := []) hb 149 d Try.underlying149 Try.underlying5 hd
      clear e
      go_wp2_with fail
      refine wp_loop_rounds 1 ?_
      rw [rounds_succ]
      go_wp2_with fail
      go_ret
      exact ⟨by rw [HE.out, show encS (Int.toNat 0) = ⟨#[]⟩ from encS0_eq']; rfl, (Below.refl _ _).alloc (Nat.le_refl _) _⟩

end Go.Proofs.Ytmcejefeloljiaa

/-
  The walks of the reference for naturals: carry.
-/
namespace Go.Proofs.Ytmcejefeloljiaa
set_option linter.unusedVariables false
set_option linter.unusedSimpArgs false
open Go.RowKit Nm

set_option maxHeartbeats 2000000 in
theorem carry_any (B : Nat) (v : Value) (xs : List Int) (w : World) (hown : OwnZ w B v xs) (he : ∀ x ∈ xs, -8589934592 ≤ x ∧ x ≤ 8589934592) (hv : 0 ≤ vle xs) (hl : xs.length ≤ 65536) :
    Calls Try.prog 116 #[v] w fun e w' => ∃ (v' : Value) (out : List Int), e = .returned v' ∧ OwnZ w' w.heap.size v' out ∧ vle out = vle xs ∧ (∀ x ∈ out, 0 ≤ x ∧ x < 256) ∧ out.length ≤ xs.length + 6 ∧ Below w.heap.size w w' := by
  obtain ⟨oa, cap, rfl, hc1, hc2⟩ := hown.shp
  have HO := Lib.hid hown
  have HE := Lib.hid he
  have HV := Lib.hid hv
  clear hown he hv
  go_enter Try.func116, Try.ntmps116
  go_wp2_with fail
  go_loopw [3, 4, 5] (fun out over i wr => ∃ (k : Nat) (ov : Int) (o : List Int), i = .int .i64 (k : Int) ∧ over = .int .i64 ov ∧ k ≤ xs.length + 6 ∧ carryI xs o ov k ∧ OwnZ wr w.heap.size out o ∧ Below w.heap.size w wr) (fun _ _ i _ => xs.length + 7 - (intOf i).toNat)
  case atStart => exact ⟨0, 0, [], rfl, rfl, by omega, carryI.zero xs, OwnZ.lit0 w, (Below.refl _ _).alloc (Nat.le_refl _) _⟩
  case round =>
    obtain ⟨k, ov, o, rfl, rfl, hk, hC, hown, hbl⟩ := hrel
    have hol := hC.len
    obtain ⟨ol, cl, hlv, hcl, hclm⟩ := hown.shp
    subst hlv
    have hol2 : o.length ≤ xs.length + 6 := by omega
    have hb0 := hC.bound
    have HC := Lib.hid hC
    clear hC hol
    by_cases h0 : k < xs.length
    · obtain ⟨g, rfl, hg1, hg2⟩ := OwnI.at HO.out (by omega)
      have hc := OwnI.cell (OwnI.kept HO.out (row := none) ⟨hbl.os, hbl.tape, hbl.output, hbl.size, fun i hi _ => hbl.block i hi⟩ (by simp [Value.ownBlock])) k h0
      have hxr := HE.out _ (List.getElem_mem h0)
      generalize hx : xs[k] = x at hc hxr
      have HX := Lib.hid hx
      clear hx
      obtain ⟨x1, x2⟩ := hxr
      obtain ⟨b1, b2⟩ := hb0
      go_wp2_with fail
      go_loopw [4, 6] (fun over d wq => ∃ dd oo : Int, d = .int .i64 dd ∧ over = .int .i64 oo ∧ oo ≤ 0 ∧ -268435456 ≤ oo ∧ (ov + x) = dd + 256 * oo ∧ (oo = 0 ∨ dd ≤ 255) ∧ wr = wq) (fun _ d _ => (- intOf d).toNat)
      case atStart => exact ⟨(ov + x), 0, rfl, rfl, by omega, by omega, by omega, Or.inl rfl, rfl⟩
      case round =>
        obtain ⟨dd, oo, rfl, rfl, ho1, ho2, hd, hor, rfl⟩ := hrel
        have HDD := Lib.hid hd
        have hd1 : -25769803776 ≤ dd + 256 * oo := by omega
        have hd2 : dd + 256 * oo ≤ 34359738368 := by omega
        clear hd
        by_cases hdn : dd < 0
        · have ho3 : -268435456 < oo := by omega
          go_wp2_with fail
          go_roundw
          case rel => exact ⟨dd + 256, oo - 1, rfl, rfl, by omega, by omega, by have := HDD.out; omega, Or.inr (by omega), trivial⟩
          case measure => simp [intOf]; omega
        · have hd0 : 0 ≤ dd := by omega
          have HS := Lib.hid (show ∀ w1 l', OwnZ w1 w.heap.size l' (o ++ [dd % 256]) → OwnZ w1 w.heap.size l' (o ++ [(ov + x) % 256]) from fun w1 l' h => by rw [show (ov + x) % 256 = dd % 256 by have := HDD.out; omega]; exact h)
          have HO2 := Lib.hid (show oo + dd / 256 = (ov + x) / 256 by have := HDD.out; omega)
          have hd3 : dd ≤ 34359738368 := by omega
          clear hdn hor
          go_wp2_with (at_builtin; refine append1I wr rfl _ _ 164 rfl w.heap.size 3 .i64 8 info_i64 Try.underlying164 _ o hown rfl _ _ (dd % 256) rfl rfl (by omega) (by omega) hbl.size ?_)
          intro l' w4 hown' hgrow
          have hbl2 := grown_belowI hbl hown hgrow hbl.size
          have hown2 := HS.out _ _ hown'
          clear hgrow hown hbl hown'
          go_wp2_with fail
          go_roundw
          case rel => exact ⟨k + 1, (ov + x) / 256, _, by go_num, by rw [← HO2.out], by omega, carryI.step HC.out h0 (by rw [HX.out]) (by rw [HX.out]; omega), hown2, hbl2⟩
          case measure => simp [intOf]; omega
    · by_cases hp : 0 < ov
      · obtain ⟨hm, hk5⟩ := HC.out.more (by omega) hp
        have HM := Lib.hid hm
        clear hm
        obtain ⟨b1, b2⟩ := hb0
        go_wp2_with fail
        go_loopw [4, 6] (fun over d wq => ∃ dd oo : Int, d = .int .i64 dd ∧ over = .int .i64 oo ∧ oo ≤ 0 ∧ -268435456 ≤ oo ∧ ov = dd + 256 * oo ∧ (oo = 0 ∨ dd ≤ 255) ∧ wr = wq) (fun _ d _ => (- intOf d).toNat)
        case atStart => exact ⟨ov, 0, rfl, rfl, by omega, by omega, by omega, Or.inl rfl, rfl⟩
        case round =>
          obtain ⟨dd, oo, rfl, rfl, ho1, ho2, hd, hor, rfl⟩ := hrel
          have HDD := Lib.hid hd
          have hd1 : -25769803776 ≤ dd + 256 * oo := by omega
          have hd2 : dd + 256 * oo ≤ 34359738368 := by omega
          clear hd
          by_cases hdn : dd < 0
          · have ho3 : -268435456 < oo := by omega
            go_wp2_with fail
            go_roundw
            case rel => exact ⟨dd + 256, oo - 1, rfl, rfl, by omega, by omega, by have := HDD.out; omega, Or.inr (by omega), trivial⟩
            case measure => simp [intOf]; omega
          · have hd0 : 0 ≤ dd := by omega
            have HS := Lib.hid (show ∀ w1 l', OwnZ w1 w.heap.size l' (o ++ [dd % 256]) → OwnZ w1 w.heap.size l' (o ++ [ov % 256]) from fun w1 l' h => by rw [show ov % 256 = dd % 256 by have := HDD.out; omega]; exact h)
            have HO2 := Lib.hid (show oo + dd / 256 = ov / 256 by have := HDD.out; omega)
            have hd3 : dd ≤ 34359738368 := by omega
            clear hdn hor
            go_wp2_with (at_builtin; refine append1I wr rfl _ _ 164 rfl w.heap.size 3 .i64 8 info_i64 Try.underlying164 _ o hown rfl _ _ (dd % 256) rfl rfl (by omega) (by omega) hbl.size ?_)
            intro l' w4 hown' hgrow
            have hbl2 := grown_belowI hbl hown hgrow hbl.size
            have hown2 := HS.out _ _ hown'
            clear hgrow hown hbl hown'
            go_wp2_with fail
            go_roundw
            case rel => exact ⟨k + 1, ov / 256, _, by go_num, by rw [← HO2.out], by omega, HM.out, hown2, hbl2⟩
            case measure => simp [intOf]; omega
      · have HD := Lib.hid (HC.out.done (by omega) (by omega) HV.out)
        have HR := Lib.hid HC.out.rng
        go_wp2_with fail
        go_ret
        exact ⟨_, rfl, o, hown, HD.out, HR.out, by omega, hbl⟩

end Go.Proofs.Ytmcejefeloljiaa

