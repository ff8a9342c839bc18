/-
  The walks of the reference for naturals: Few.
-/
import Derived.Test.YtlkpphoioocjeaaRefH
namespace Go.Proofs.Ytlkpphoioocjeaa
open Go.RowKit Nm

def few (s : ByteArray) : Prop := s.size ≤ 16 ∨ (250 ≤ s.size ∧ s.size ≤ 260)
instance (s : ByteArray) : Decidable (few s) := by unfold few; infer_instance
theorem cellsTwo (w : World) (u v : Value) (E : TypeId) (j : Nat) (hj : j < 2) : (w.alloc (.cells #[u, v] E)).cell? ⟨w.heap.size, j, none⟩ = #[u, v].toList[j]? :=
  World.ownsRow.cellAt (World.ownsRow_lit (base := w.heap.size) (e := E) (size := 1) w #[u, v] 2 (Nat.le_refl _) (by simp [maxLen]) rfl) j (by omega)

set_option maxRecDepth 8000 in
set_option maxHeartbeats 2000000 in
theorem few_any (a b : ByteArray) (w : World) (r : Bool) (hr : r = decide (few a ∧ few b)) :
    Calls Try.prog 26 #[.slice (some ⟨w.heap.size, 0, none⟩) 2 2] (w.alloc (.cells #[.string a, .string b] 9)) fun e w' => e = .returned (.bool r) ∧ w.alloc (.cells #[.string a, .string b] 9) = w' := by
  have c0 := cellsTwo w (.string a) (.string b) 9 0 (by omega)
  have c1 := cellsTwo w (.string a) (.string b) 9 1 (by omega)
  have HR := Lib.hid hr
  clear hr
  replace c0 : _ = some (Value.string a) := c0
  replace c1 : _ = some (Value.string b) := c1
  generalize w.alloc (.cells #[.string a, .string b] 9) = w1 at *
  generalize w.heap.size = g at *
  go_enter Try.func26, Try.ntmps26
  go_wp2_with fail
  go_loopw [3] (fun i wr => ∃ k : Nat, k ≤ 2 ∧ i = .int .i64 (k : Int) ∧ (0 < k → few a) ∧ (1 < k → few b) ∧ w1 = wr) (fun i _ => 2 - (intOf i).toNat)
  case atStart => exact ⟨0, by omega, rfl, by omega, by omega, rfl⟩
  case round =>
    obtain ⟨k, hk, rfl, ha, hb, rfl⟩ := hrel
    have HA := Lib.hid ha
    have HB := Lib.hid hb
    clear ha hb
    obtain rfl | rfl | rfl : k = 0 ∨ k = 1 ∨ k = 2 := by omega
    · obtain h1 | h1 | h1 | h1 : a.size ≤ 16 ∨ (16 < a.size ∧ a.size < 250) ∨ (250 ≤ a.size ∧ a.size ≤ 260) ∨ 260 < a.size := by omega
      · obtain h1 := h1
        go_wp2_with fail
        go_roundw
        case rel => exact ⟨1, by omega, rfl, fun _ => Or.inl h1, by omega, trivial⟩
        case measure => simp [intOf]
      · obtain ⟨h1, h2⟩ := h1
        go_wp2_with fail
        go_ret
        exact ⟨ret_bool (HR.out.trans (decide_eq_false (by intro h; have := h.1; unfold few at this; omega))).symm, rfl⟩
      · obtain ⟨h1, h2⟩ := h1
        go_wp2_with fail
        go_roundw
        case rel => exact ⟨1, by omega, rfl, fun _ => Or.inr ⟨h1, h2⟩, by omega, trivial⟩
        case measure => simp [intOf]
      · obtain h1 := h1
        go_wp2_with fail
        go_ret
        exact ⟨ret_bool (HR.out.trans (decide_eq_false (by intro h; have := h.1; unfold few at this; omega))).symm, rfl⟩
    · obtain h1 | h1 | h1 | h1 : b.size ≤ 16 ∨ (16 < b.size ∧ b.size < 250) ∨ (250 ≤ b.size ∧ b.size ≤ 260) ∨ 260 < b.size := by omega
      · obtain h1 := h1
        go_wp2_with fail
        go_roundw
        case rel => exact ⟨2, by omega, rfl, fun _ => HA.out (by omega), fun _ => Or.inl h1, trivial⟩
        case measure => simp [intOf]
      · obtain ⟨h1, h2⟩ := h1
        go_wp2_with fail
        go_ret
        exact ⟨ret_bool (HR.out.trans (decide_eq_false (by intro h; have := h.2; unfold few at this; omega))).symm, rfl⟩
      · obtain ⟨h1, h2⟩ := h1
        go_wp2_with fail
        go_roundw
        case rel => exact ⟨2, by omega, rfl, fun _ => HA.out (by omega), fun _ => Or.inr ⟨h1, h2⟩, trivial⟩
        case measure => simp [intOf]
      · obtain h1 := h1
        go_wp2_with fail
        go_ret
        exact ⟨ret_bool (HR.out.trans (decide_eq_false (by intro h; have := h.2; unfold few at this; omega))).symm, rfl⟩
    · go_wp2_with fail
      go_ret
      exact ⟨ret_bool (HR.out.trans (decide_eq_true ⟨HA.out (by omega), HB.out (by omega)⟩)).symm, rfl⟩

end Go.Proofs.Ytlkpphoioocjeaa
