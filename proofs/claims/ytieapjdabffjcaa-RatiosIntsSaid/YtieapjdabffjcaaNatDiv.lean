/-
  The walks of package naturals: bits, divide.
-/
import Derived.Test.YtieapjdabffjcaaNatDbl
import Derived.Test.YtieapjdabffjcaaNatCmp
import Derived.RangeFuncNested
import Derived.RangeFuncBound
import Derived.RangeFuncCalls
import Derived.RangeFuncLeaves
import Derived.RangeFuncWrites
import Derived.Shelf.Abstract
import Derived.Shelf.RegionOpen
import Derived.OwnWalkIn
import Derived.TacticsInMore
import Derived.LoopNIn
import Derived.LoopIn
namespace Go.Proofs.Ytieapjdabffjcaa
open Go.RowKit Nm
attribute [local go_sem] Oper.semAt_some

/-- the two blocks that the iterator reads lie as they lay -/
def keep2 (b c : Nat) (W W' : World) : Prop := W'.heap[b]? = W.heap[b]? ∧ W'.heap[c]? = W.heap[c]?
theorem keep2_t {b c : Nat} {A B C : World} (h : keep2 b c A B) (k : keep2 b c B C) : keep2 b c A C := ⟨k.1.trans h.1, k.2.trans h.2⟩

set_option maxRecDepth 100000 in
set_option maxHeartbeats 1000000 in
theorem bits1_in (n l Bl B V cap ga : Nat) (hl : 1 ≤ n) (hln : (digs V).length ≤ 1048576) (J Jx : List (BitAt (32 * (digs V).length)) → World → Prop) (W : World) (oa : Option Addr)
    (hv : OwnU W B (.slice oa (digs V).length cap) (digs V)) (hga : ∀ g, oa = some ⟨g, 0, none⟩ → g = ga)
    (hY : ∀ pre x W1, J pre W1 → pre.length < 32 * (digs V).length → YieldAt Fence.wide (n - 1) Try.prog l #[.int .i64 ((x.1.1 : Nat) : Int), .int .u64 ((x.1.2 : Nat) : Int)] W1 fun e W' =>
      (e = .returned (.bool true) ∧ J (pre ++ [x]) W' ∧ keep2 Bl ga W1 W') ∨ (e = .returned (.bool false) ∧ Jx (pre ++ [x]) W'))
    (hBl : W.cell? ⟨Bl, 0, none⟩ = some (.slice oa (digs V).length cap)) (h0 : J [] W) :
    CallsIn Fence.wide n Try.prog 94 #[.func (.yield l) #[] #[], .pointer (some ⟨Bl, 0, none⟩)] W fun e W' => (∃ v, e = .returned v) ∧
      ((∃ ys, ys = bitsUpto V (32 * (digs V).length) (32 * (digs V).length) ∧ J ys W') ∨ (∃ pre, (∃ k, pre = bitsUpto V (32 * (digs V).length) k) ∧ Jx pre W')) := by
  have HO := Lib.hid hv; clear hv
  have HG := Lib.hid hga; clear hga
  have HB := Lib.hid hBl
  refine callsIn_of_wp Try.func94 rfl trivial ?_ rfl
  simp only [Try.ntmps94, List.size_toArray, List.length_cons, List.length_nil, Nat.reduceAdd, Nat.reduceSub, Array.replicate_succ, Array.replicate_zero, List.push_toArray, List.append_toArray, List.nil_append, List.cons_append]
  gi_wp2
  clear hBl
  gi_loopw [3] (fun i wr => ∃ j : Nat, j ≤ 32 * (digs V).length ∧ i = .int .i64 (32 * (digs V).length - 1 - (j : Int)) ∧ J (bitsUpto V (32 * (digs V).length) j) wr ∧ keep2 Bl ga W wr)
    (fun i _ => (intOf i + 1).toNat)
  case atStart => exact ⟨0, Nat.zero_le _, by simp, h0, rfl, rfl⟩
  case round =>
    obtain ⟨j, hj, rfl, hJs, hkp⟩ := hrel
    by_cases hlt : j < 32 * (digs V).length
    · obtain ⟨g, rfl, _, _⟩ := OwnN.at HO.out (by omega)
      obtain rfl := HG.out g rfl
      have hcx := OwnN.cell HO.out ((32 * (digs V).length - 1 - j) / 32) (by omega)
      rw [digs_get] at hcx
      have hcx2 : wr.cell? ⟨g, (32 * (digs V).length - 1 - j) / 32, none⟩ = _ := (World.cell?_of_block (a := ⟨g, (32 * (digs V).length - 1 - j) / 32, none⟩) hkp.2).trans hcx
      have hcb : wr.cell? ⟨Bl, 0, none⟩ = _ := (World.cell?_of_block (a := ⟨Bl, 0, none⟩) hkp.1).trans HB.out
      have hbit := bit_of V (32 * (digs V).length - 1 - j)
      generalize hxe : V / B32 ^ ((32 * (digs V).length - 1 - j) / 32) % B32 = x at *
      have hx2 : x < 4294967296 := by rw [← hxe]; exact Nat.mod_lt _ (by unfold B32; omega)
      have HBit := Lib.hid hbit
      clear hcx hbit hxe
      obtain ⟨fn, tmps, assign, body, hy, hR⟩ := hY _ (bitAt V (32 * (digs V).length) j) wr hJs (by rw [bitsUpto_length]; exact hlt)
      dsimp only [bitAt] at hy
      have e1 : ((32 * (digs V).length - 1 - j : Nat) : Int) = 32 * ((digs V).length : Int) - 1 - (j : Int) := by omega
      rw [← HBit.out, e1, ← and_bit x _ (by omega)] at hy
      clear e1
      gi_wp2
      refine hR.mono ?_
      rintro e W3 (⟨rfl, hJ3, hk3⟩ | ⟨rfl, hJx3⟩)
      · gi_wp2
        go_roundw
        case rel => exact ⟨j + 1, by omega, by rw [show ((j + 1 : Nat) : Int) = (j : Int) + 1 by omega]; congr 1; omega, by rw [bitsUpto_succ]; exact hJ3, keep2_t hkp hk3⟩
        case measure => simp [intOf]; omega
      · gi_wp2
        refine bodyPost_ret (results_none rfl _ _ _) rfl ?_
        exact ⟨⟨_, rfl⟩, .inr ⟨_, ⟨j + 1, rfl⟩, by rw [bitsUpto_succ]; exact hJx3⟩⟩
    · obtain rfl : j = 32 * (digs V).length := by omega
      gi_wp2
      go_end0
      exact ⟨⟨_, rfl⟩, .inl ⟨_, rfl, hJs⟩⟩

theorem bits_any (oa : Option Addr) (len cap : Nat) (w : World) :
    Calls Try.prog 83 #[.slice oa len cap] w fun e w' => e = .returned (.func (.func 94) #[] #[.pointer (some ⟨w.heap.size, 0, none⟩)]) ∧ w' = w.alloc (.cells #[.slice oa len cap] 69) := by
  have hmf : ∀ (fn : Fn) (first cap : Array Value) (w : World), (Instr.makeFunc fn first cap).run Try.prog w = .ok (.func fn first cap) w := fun _ _ _ _ => rfl
  go_enter Try.func83, Try.ntmps83
  go_wp2
  go_ret
  exact ⟨rfl, rfl⟩

theorem bits_stops (n Bl B V cap ga : Nat) (hl : 1 ≤ n) (hln : (digs V).length ≤ 1048576) (w : World) (oa : Option Addr)
    (hv : OwnU w B (.slice oa (digs V).length cap) (digs V)) (hga : ∀ g, oa = some ⟨g, 0, none⟩ → g = ga) (hBl : w.cell? ⟨Bl, 0, none⟩ = some (.slice oa (digs V).length cap)) (hlt : Bl < w.heap.size) :
    SeqStopsK Fence.wide n Try.prog 94 #[.pointer (some ⟨Bl, 0, none⟩)] (fun x : BitAt (32 * (digs V).length) => #[.int .i64 ((x.1.1 : Nat) : Int), .int .u64 ((x.1.2 : Nat) : Int)]) (keep2 Bl ga)
      (fun ys => ys = bitsUpto V (32 * (digs V).length) (32 * (digs V).length)) (fun pre => ∃ k, pre = bitsUpto V (32 * (digs V).length) k) (32 * (digs V).length) w := fun l J Jx W hW _ _ hY h0 =>
  bits1_in n l Bl B V cap ga hl hln J Jx W oa (hv.below hW) hga hY ((hW.cell (p := ⟨Bl, 0, none⟩) hlt).trans hBl) h0

end Go.Proofs.Ytieapjdabffjcaa
