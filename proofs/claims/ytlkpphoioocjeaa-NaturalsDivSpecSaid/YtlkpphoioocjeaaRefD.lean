/-
  The walks of the reference for naturals: carry.
-/
import Derived.Test.YtlkpphoioocjeaaRefC
namespace Go.Proofs.Ytlkpphoioocjeaa
open Go.RowKit Nm

set_option maxHeartbeats 2000000 in
theorem carry_any (B : Nat) (v : Value) (xs : List Int) (w : World) (hown : OwnZ w B v xs) (he : ∀ x ∈ xs, -8589934592 ≤ x ∧ x ≤ 8589934592) (hv : 0 ≤ vle xs) (hl : xs.length ≤ 65536) :
    Calls Try.prog 47 #[v] w fun e w' => ∃ (v' : Value) (out : List Int), e = .returned v' ∧ OwnZ w' w.heap.size v' out ∧ vle out = vle xs ∧ (∀ x ∈ out, 0 ≤ x ∧ x < 256) ∧ out.length ≤ xs.length + 6 ∧ Below w.heap.size w w' := by
  obtain ⟨oa, cap, rfl, hc1, hc2⟩ := hown.shp
  have HO := Lib.hid hown
  have HE := Lib.hid he
  have HV := Lib.hid hv
  clear hown he hv
  go_enter Try.func47, Try.ntmps47
  go_wp2_with fail
  go_loopw [3, 4, 5] (fun out over i wr => ∃ (k : Nat) (ov : Int) (o : List Int), i = .int .i64 (k : Int) ∧ over = .int .i64 ov ∧ k ≤ xs.length + 6 ∧ carryI xs o ov k ∧ OwnZ wr w.heap.size out o ∧ Below w.heap.size w wr) (fun _ _ i _ => xs.length + 7 - (intOf i).toNat)
  case atStart => exact ⟨0, 0, [], rfl, rfl, by omega, carryI.zero xs, OwnZ.lit0 w, (Below.refl _ _).alloc (Nat.le_refl _) _⟩
  case round =>
    obtain ⟨k, ov, o, rfl, rfl, hk, hC, hown, hbl⟩ := hrel
    have hol := hC.len
    obtain ⟨ol, cl, hlv, hcl, hclm⟩ := hown.shp
    subst hlv
    have hol2 : o.length ≤ xs.length + 6 := by omega
    have hb0 := hC.bound
    have HC := Lib.hid hC
    clear hC hol
    by_cases h0 : k < xs.length
    · obtain ⟨g, rfl, hg1, hg2⟩ := OwnI.at HO.out (by omega)
      have hc := OwnI.cell (OwnI.kept HO.out (row := none) ⟨hbl.os, hbl.tape, hbl.output, hbl.size, fun i hi _ => hbl.block i hi⟩ (by simp [Value.ownBlock])) k h0
      have hxr := HE.out _ (List.getElem_mem h0)
      generalize hx : xs[k] = x at hc hxr
      have HX := Lib.hid hx
      clear hx
      obtain ⟨x1, x2⟩ := hxr
      obtain ⟨b1, b2⟩ := hb0
      go_wp2_with fail
      go_loopw [4, 6] (fun over d wq => ∃ dd oo : Int, d = .int .i64 dd ∧ over = .int .i64 oo ∧ oo ≤ 0 ∧ -268435456 ≤ oo ∧ (ov + x) = dd + 256 * oo ∧ (oo = 0 ∨ dd ≤ 255) ∧ wr = wq) (fun _ d _ => (- intOf d).toNat)
      case atStart => exact ⟨(ov + x), 0, rfl, rfl, by omega, by omega, by omega, Or.inl rfl, rfl⟩
      case round =>
        obtain ⟨dd, oo, rfl, rfl, ho1, ho2, hd, hor, rfl⟩ := hrel
        have HDD := Lib.hid hd
        have hd1 : -25769803776 ≤ dd + 256 * oo := by omega
        have hd2 : dd + 256 * oo ≤ 34359738368 := by omega
        clear hd
        by_cases hdn : dd < 0
        · have ho3 : -268435456 < oo := by omega
          go_wp2_with fail
          go_roundw
          case rel => exact ⟨dd + 256, oo - 1, rfl, rfl, by omega, by omega, by have := HDD.out; omega, Or.inr (by omega), trivial⟩
          case measure => simp [intOf]; omega
        · have hd0 : 0 ≤ dd := by omega
          have HS := Lib.hid (show ∀ w1 l', OwnZ w1 w.heap.size l' (o ++ [dd % 256]) → OwnZ w1 w.heap.size l' (o ++ [(ov + x) % 256]) from fun w1 l' h => by rw [show (ov + x) % 256 = dd % 256 by have := HDD.out; omega]; exact h)
          have HO2 := Lib.hid (show oo + dd / 256 = (ov + x) / 256 by have := HDD.out; omega)
          have hd3 : dd ≤ 34359738368 := by omega
          clear hdn hor
          go_wp2_with (at_builtin; refine append1I wr rfl _ _ 52 rfl w.heap.size 3 .i64 8 info_i64 Try.underlying52 _ o hown rfl _ _ (dd % 256) rfl rfl (by omega) (by omega) hbl.size ?_)
          intro l' w4 hown' hgrow
          have hbl2 := grown_belowI hbl hown hgrow hbl.size
          have hown2 := HS.out _ _ hown'
          clear hgrow hown hbl hown'
          go_wp2_with fail
          go_roundw
          case rel => exact ⟨k + 1, (ov + x) / 256, _, by go_num, by rw [← HO2.out], by omega, carryI.step HC.out h0 (by rw [HX.out]) (by rw [HX.out]; omega), hown2, hbl2⟩
          case measure => simp [intOf]; omega
    · by_cases hp : 0 < ov
      · obtain ⟨hm, hk5⟩ := HC.out.more (by omega) hp
        have HM := Lib.hid hm
        clear hm
        obtain ⟨b1, b2⟩ := hb0
        go_wp2_with fail
        go_loopw [4, 6] (fun over d wq => ∃ dd oo : Int, d = .int .i64 dd ∧ over = .int .i64 oo ∧ oo ≤ 0 ∧ -268435456 ≤ oo ∧ ov = dd + 256 * oo ∧ (oo = 0 ∨ dd ≤ 255) ∧ wr = wq) (fun _ d _ => (- intOf d).toNat)
        case atStart => exact ⟨ov, 0, rfl, rfl, by omega, by omega, by omega, Or.inl rfl, rfl⟩
        case round =>
          obtain ⟨dd, oo, rfl, rfl, ho1, ho2, hd, hor, rfl⟩ := hrel
          have HDD := Lib.hid hd
          have hd1 : -25769803776 ≤ dd + 256 * oo := by omega
          have hd2 : dd + 256 * oo ≤ 34359738368 := by omega
          clear hd
          by_cases hdn : dd < 0
          · have ho3 : -268435456 < oo := by omega
            go_wp2_with fail
            go_roundw
            case rel => exact ⟨dd + 256, oo - 1, rfl, rfl, by omega, by omega, by have := HDD.out; omega, Or.inr (by omega), trivial⟩
            case measure => simp [intOf]; omega
          · have hd0 : 0 ≤ dd := by omega
            have HS := Lib.hid (show ∀ w1 l', OwnZ w1 w.heap.size l' (o ++ [dd % 256]) → OwnZ w1 w.heap.size l' (o ++ [ov % 256]) from fun w1 l' h => by rw [show ov % 256 = dd % 256 by have := HDD.out; omega]; exact h)
            have HO2 := Lib.hid (show oo + dd / 256 = ov / 256 by have := HDD.out; omega)
            have hd3 : dd ≤ 34359738368 := by omega
            clear hdn hor
            go_wp2_with (at_builtin; refine append1I wr rfl _ _ 52 rfl w.heap.size 3 .i64 8 info_i64 Try.underlying52 _ o hown rfl _ _ (dd % 256) rfl rfl (by omega) (by omega) hbl.size ?_)
            intro l' w4 hown' hgrow
            have hbl2 := grown_belowI hbl hown hgrow hbl.size
            have hown2 := HS.out _ _ hown'
            clear hgrow hown hbl hown'
            go_wp2_with fail
            go_roundw
            case rel => exact ⟨k + 1, ov / 256, _, by go_num, by rw [← HO2.out], by omega, HM.out, hown2, hbl2⟩
            case measure => simp [intOf]; omega
      · have HD := Lib.hid (HC.out.done (by omega) (by omega) HV.out)
        have HR := Lib.hid HC.out.rng
        go_wp2_with fail
        go_ret
        exact ⟨_, rfl, o, hown, HD.out, HR.out, by omega, hbl⟩

end Go.Proofs.Ytlkpphoioocjeaa
