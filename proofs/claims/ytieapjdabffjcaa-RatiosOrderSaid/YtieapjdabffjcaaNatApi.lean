/-
  The walks of package naturals: Check, Compare, Sub, Div, Gcd, Of.
-/
import Derived.Test.YtieapjdabffjcaaNatText
import Derived.Test.YtieapjdabffjcaaNatQuo
namespace Go.Proofs.Ytieapjdabffjcaa
open Go.RowKit Nm

theorem cells1 (w : World) (a : ByteArray) (t : TypeId) : ∀ j (h : j < [a].length), (w.alloc (.cells #[.string a] t)).cell? ⟨w.heap.size, j, none⟩ = some (.string [a][j]) := by
  intro j h
  match j, h with
  | 0, _ => rw [World.cell?_alloc_at _ _ _ _ rfl]; rfl
theorem cells2 (w : World) (a b : ByteArray) (t : TypeId) : ∀ j (h : j < [a, b].length), (w.alloc (.cells #[.string a, .string b] t)).cell? ⟨w.heap.size, j, none⟩ = some (.string [a, b][j]) := by
  intro j h
  match j, h with
  | 0, _ => rw [World.cell?_alloc_at _ _ _ _ rfl]; rfl
  | 1, _ => rw [World.cell?_alloc_at _ _ _ _ rfl]; rfl

/-- 'check(a, b)' -/
theorem check2 (a b : ByteArray) (w : World) (ha : a.size ≤ maxLen) (hb : b.size ≤ maxLen) :
    Calls Try.prog 62 #[.slice (some ⟨w.heap.size, 0, none⟩) 2 2] (w.alloc (.cells #[.string a, .string b] 9)) fun e w' => e = .returned (.int .i64 (chkN [a, b])) ∧ w.alloc (.cells #[.string a, .string b] 9) = w' :=
  check_any w.heap.size 2 [a, b] _ (by simp) (cells2 w a b _) (by simp; exact ⟨ha, hb⟩)
theorem check1 (a : ByteArray) (w : World) (ha : a.size ≤ maxLen) :
    Calls Try.prog 62 #[.slice (some ⟨w.heap.size, 0, none⟩) 1 1] (w.alloc (.cells #[.string a] 9)) fun e w' => e = .returned (.int .i64 (chkN [a])) ∧ w.alloc (.cells #[.string a] 9) = w' :=
  check_any w.heap.size 1 [a] _ (by simp) (cells1 w a _) (by simp; exact ha)

set_option maxHeartbeats 400000 in
theorem Check_any (a : ByteArray) (w : World) (ha : a.size ≤ maxLen) :
    Calls Try.prog 45 #[.string a] w fun e w' => e = .returned (.int .i64 (chkN [a])) ∧ Below w.heap.size w w' := by
  go_enter Try.func45, Try.ntmps45
  go_wp2_with fail
  refine (check1 a w ha).mono ?_
  rintro e w' ⟨rfl, rfl⟩
  go_wp2_with fail
  go_ret
  exact ⟨rfl, (Below.refl _ _).alloc (Nat.le_refl _) _⟩

set_option maxHeartbeats 400000 in
theorem Compare_any (a b : ByteArray) (w : World) (ha : a.size ≤ maxLen) (hb : b.size ≤ maxLen) :
    Calls Try.prog 81 #[.string a, .string b] w fun e w' => e = .returned (.tuple #[.int .i64 (cmpF a b).1, .int .i64 (cmpF a b).2]) ∧ Below w.heap.size w w' := by
  go_enter Try.func81, Try.ntmps81
  go_wp2_with fail
  refine (check2 a b w ha hb).mono ?_
  rintro e w' ⟨rfl, rfl⟩
  have hbl : Below w.heap.size w (w.alloc (.cells #[.string a, .string b] 9)) := (Below.refl _ _).alloc (Nat.le_refl _) _
  generalize w.alloc (.cells #[.string a, .string b] 9) = w1 at *
  by_cases h : chkN [a, b] = 0
  · have E : Hid (cmpF a b = (cmpN (nv a) (nv b), 0)) := if_pos h
    obtain ⟨n1, n2, s1, s2⟩ := chk2_zero h
    rw [h]
    clear h ha hb
    go_wp2_with fail
    refine (words_nat a _ (by omega) n1).mono ?_
    rintro e w2 ⟨v, rfl, hv, hb2⟩
    go_wp2_with fail
    refine (words_nat b _ (by omega) n2).mono ?_
    rintro e w3 ⟨u, rfl, hu, hb3⟩
    go_wp2_with fail
    refine (compare_any _ _ v u _ _ _ (hv.below hb3) hu (by have := digs_of_size s1; omega) (by have := digs_of_size s2; omega)).mono ?_
    rintro e w4 ⟨rfl, k, rfl⟩
    go_wp2_with fail
    go_ret2
    exact ⟨by rw [E.out]; rfl, below_drewN (hbl.trans ((hb2.mono hbl.size).trans (hb3.mono (Nat.le_trans hbl.size hb2.size)))) k⟩
  · have E : Hid (cmpF a b = (0, chkN [a, b])) := if_neg h
    have h2 : (chkN [a, b] != 0) = true := by simpa using h
    go_wp2_with fail
    go_ret2
    exact ⟨by rw [E.out]; rfl, hbl⟩

end Go.Proofs.Ytieapjdabffjcaa
