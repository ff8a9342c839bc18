/-
  The laws of chapter 06: the walk of NaturalsSumSpec.
-/
import Derived.Test.YtlkpphoioocjeaaLaw06
import Derived.Test.YtlkpphoioocjeaaRefF
namespace Go.Proofs.Ytlkpphoioocjeaa
open Go.RowKit Nm

set_option maxRecDepth 8000 in
set_option maxHeartbeats 2000000 in
theorem sum_1 (a b : ByteArray) (w : World) (ha : a.size ≤ maxLen) (hb : b.size ≤ maxLen) (h1 : 300 < a.size) :
    Calls Try.prog 4 #[.string a, .string b] w fun e w' => e = .returned (.bool true) ∧ Below w.heap.size w w' := by
  go_enter Try.func4, Try.ntmps4
  have hbl : Below w.heap.size w w := Below.refl _ _
  go_wp2_with fail
  refine (sane_any _).mono ?_
  rintro e w1 ⟨rfl, hb⟩
  replace hbl := hbl.trans (hb.mono hbl.size)
  clear hb
  go_wp2_with fail
  go_ret
  exact ⟨rfl, hbl⟩

set_option maxRecDepth 8000 in
set_option maxHeartbeats 2000000 in
theorem sum_2 (a b : ByteArray) (w : World) (ha : a.size ≤ maxLen) (hb : b.size ≤ maxLen) (h1 : a.size ≤ 300) (h2 : 300 < b.size) :
    Calls Try.prog 4 #[.string a, .string b] w fun e w' => e = .returned (.bool true) ∧ Below w.heap.size w w' := by
  go_enter Try.func4, Try.ntmps4
  have hbl : Below w.heap.size w w := Below.refl _ _
  go_wp2_with fail
  refine (sane_any _).mono ?_
  rintro e w1 ⟨rfl, hb⟩
  replace hbl := hbl.trans (hb.mono hbl.size)
  clear hb
  go_wp2_with fail
  go_ret
  exact ⟨rfl, hbl⟩

set_option maxRecDepth 8000 in
set_option maxHeartbeats 2000000 in
theorem sum_main (a b : ByteArray) (w : World) (ha : a.size ≤ maxLen) (hb : b.size ≤ maxLen) (h1 : a.size ≤ 300) (h2 : b.size ≤ 300) :
    Calls Try.prog 4 #[.string a, .string b] w fun e w' => e = .returned (.bool true) ∧ Below w.heap.size w w' := by
  have h_ := fun w => add_loop a b w ha hb
  have A1 := Lib.hid h_
  clear h_
  have h_ := fun w => rAdd_any a b w
  have A2 := Lib.hid h_
  clear h_
  have h_ := fun w => Sub_any a b w ha hb
  have S1 := Lib.hid h_
  clear h_
  have h_ := fun w => rSub_any a b w
  have S2 := Lib.hid h_
  clear h_
  have h_ := fun w => Mul_any a b w ha hb
  have M1 := Lib.hid h_
  clear h_
  have h_ := fun w => rMul_any a b w
  have M2 := Lib.hid h_
  clear h_
  generalize (addF a b).1 = r0 at *
  generalize (addF a b).2 = r1 at *
  generalize (subF a b).1 = r2 at *
  generalize (subF a b).2 = r3 at *
  generalize (mulF a b).1 = r4 at *
  generalize (mulF a b).2 = r5 at *
  go_enter Try.func4, Try.ntmps4
  have hbl : Below w.heap.size w w := Below.refl _ _
  go_wp2_with fail
  refine (sane_any _).mono ?_
  rintro e w1 ⟨rfl, hb⟩
  replace hbl := hbl.trans (hb.mono hbl.size)
  clear hb
  go_wp2_with fail
  refine (A1.out _).mono ?_
  rintro e w2 ⟨rfl, hb⟩
  replace hbl := hbl.trans (hb.mono hbl.size)
  clear hb
  go_wp2_with fail
  refine (A2.out _).mono ?_
  rintro e w3 ⟨rfl, hb⟩
  replace hbl := hbl.trans (hb.mono hbl.size)
  clear hb
  go_wp2_with fail
  refine (S1.out _).mono ?_
  rintro e w4 ⟨rfl, hb⟩
  replace hbl := hbl.trans (hb.mono hbl.size)
  clear hb
  go_wp2_with fail
  refine (S2.out _).mono ?_
  rintro e w5 ⟨rfl, hb⟩
  replace hbl := hbl.trans (hb.mono hbl.size)
  clear hb
  go_wp2_with fail
  refine (M1.out _).mono ?_
  rintro e w6 ⟨rfl, hb⟩
  replace hbl := hbl.trans (hb.mono hbl.size)
  clear hb
  go_wp2_with fail
  refine (M2.out _).mono ?_
  rintro e w7 ⟨rfl, hb⟩
  replace hbl := hbl.trans (hb.mono hbl.size)
  clear hb
  go_wp2_with fail
  go_ret
  exact ⟨ret_bool (by simp), hbl⟩

set_option maxRecDepth 8000 in
set_option maxHeartbeats 2000000 in
theorem naturalsSumSpec_walk (a b : ByteArray) (w : World) (ha : a.size ≤ maxLen) (hb : b.size ≤ maxLen) :
    Calls Try.prog 4 #[.string a, .string b] w fun e w' => e = .returned (.bool true) ∧ Below w.heap.size w w' := by
  by_cases h1 : a.size ≤ 300
  · by_cases h2 : b.size ≤ 300
    · exact sum_main a b w ha hb h1 h2
    · exact sum_2 a b w ha hb h1 (by omega)
  · exact sum_1 a b w ha hb (by omega)

end Go.Proofs.Ytlkpphoioocjeaa
