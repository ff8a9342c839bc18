/-
  The laws of chapter 06: shared facts.
-/
import Derived.Test.YtlkpphoioocjeaaNatSane
import Derived.Test.YtlkpphoioocjeaaNm2
namespace Go.Proofs.Ytlkpphoioocjeaa
open Go.RowKit Nm

theorem encS0_eq : encS 0 = ⟨#[]⟩ := by rw [← bE_encS]; rfl
theorem encS0_empty : (encS 0).toList.isEmpty = true := by rw [encS0_eq]; decide +kernel
theorem chk_way {a b : ByteArray} (h : chkN [a, b] ≠ 0) :
    (chkN [a, b] = 2 ∨ chkN [a, b] = 60) ∧ ((chkN [a] = 2 ∨ chkN [a] = 60) ∨ (chkN [a] = 0 ∧ (chkN [b] = 2 ∨ chkN [b] = 60))) := by
  simp only [chkN, List.all_cons, List.all_nil, Bool.and_true] at *
  generalize isN a = x at *
  generalize isN b = y at *
  generalize decide (a.size ≤ 256) = u at *
  generalize decide (b.size ≤ 256) = v at *
  cases x <;> cases y <;> cases u <;> cases v <;> revert h <;> decide
theorem size_bE {b : ByteArray} (h : b.size = 0) : b = bE := by
  have h' : b.data = #[] := Array.eq_empty_of_size_eq_zero h
  show b = ⟨#[]⟩
  rw [← h']
theorem size_ne {b : ByteArray} (h : ¬ b.size = 0) : ¬ b.toList = [] := by
  intro hc
  have := isEmpty_false (s := b) (by omega)
  rw [hc] at this
  cases this
theorem bE_nil : bE.toList = [] := by decide +kernel
theorem enc0_nil : (encS 0).toList = [] := bE_nil

end Go.Proofs.Ytlkpphoioocjeaa
