/-
  The laws of chapter 06: the walk of NaturalsDivSpec.
-/
import Derived.Test.YtlkpphoioocjeaaLaw06
import Derived.Test.YtlkpphoioocjeaaRefI
namespace Go.Proofs.Ytlkpphoioocjeaa
open Go.RowKit Nm

set_option maxRecDepth 8000 in
set_option maxHeartbeats 2000000 in
theorem div_no (a b : ByteArray) (w : World) (ha : a.size ≤ maxLen) (hb : b.size ≤ maxLen) (hf : ¬ (few a ∧ few b)) :
    Calls Try.prog 5 #[.string a, .string b] w fun e w' => e = .returned (.bool true) ∧ Below w.heap.size w w' := by
  have HF := Lib.hid (fun w => few_any a b w false (decide_eq_false hf).symm)
  clear hf
  go_enter Try.func5, Try.ntmps5
  have hbl : Below w.heap.size w w := Below.refl _ _
  go_wp2_with fail
  refine (sane_any _).mono ?_
  rintro e w1 ⟨rfl, hb⟩
  replace hbl := hbl.trans (hb.mono hbl.size)
  clear hb
  go_wp2_with fail
  refine (HF.out _).mono ?_
  rintro e w2 ⟨rfl, rfl⟩
  replace hbl := hbl.alloc hbl.size (.cells #[.string a, .string b] 9)
  generalize World.alloc _ _ = w2 at *
  go_wp2_with fail
  go_ret
  exact ⟨rfl, hbl⟩

set_option maxRecDepth 8000 in
set_option maxHeartbeats 2000000 in
theorem div_a (a b : ByteArray) (w : World) (ha : a.size ≤ maxLen) (hb : b.size ≤ maxLen) (hf : few a ∧ few b) (h1 : 16 < a.size) :
    Calls Try.prog 5 #[.string a, .string b] w fun e w' => e = .returned (.bool true) ∧ Below w.heap.size w w' := by
  have HF := Lib.hid (fun w => few_any a b w true (decide_eq_true hf).symm)
  clear hf
  have h_ := fun w => Div_any a b w ha hb
  have D1 := Lib.hid h_
  clear h_
  have h_ := fun w => rDiv_any a b w
  have D2 := Lib.hid h_
  clear h_
  generalize (divF a b).1 = r0 at *
  generalize (divF a b).2.1 = r1 at *
  generalize (divF a b).2.2 = r2 at *
  go_enter Try.func5, Try.ntmps5
  have hbl : Below w.heap.size w w := Below.refl _ _
  go_wp2_with fail
  refine (sane_any _).mono ?_
  rintro e w1 ⟨rfl, hb⟩
  replace hbl := hbl.trans (hb.mono hbl.size)
  clear hb
  go_wp2_with fail
  refine (HF.out _).mono ?_
  rintro e w2 ⟨rfl, rfl⟩
  replace hbl := hbl.alloc hbl.size (.cells #[.string a, .string b] 9)
  generalize World.alloc _ _ = w2 at *
  go_wp2_with fail
  refine (D1.out _).mono ?_
  rintro e w3 ⟨rfl, hb⟩
  replace hbl := hbl.trans (hb.mono hbl.size)
  clear hb
  go_wp2_with fail
  refine (D2.out _).mono ?_
  rintro e w4 ⟨rfl, hb⟩
  replace hbl := hbl.trans (hb.mono hbl.size)
  clear hb
  go_wp2_with fail
  go_ret
  exact ⟨ret_bool (by simp), hbl⟩

set_option maxRecDepth 8000 in
set_option maxHeartbeats 2000000 in
theorem div_b (a b : ByteArray) (w : World) (ha : a.size ≤ maxLen) (hb : b.size ≤ maxLen) (hf : few a ∧ few b) (h1 : a.size ≤ 16) (h2 : 16 < b.size) :
    Calls Try.prog 5 #[.string a, .string b] w fun e w' => e = .returned (.bool true) ∧ Below w.heap.size w w' := by
  have HF := Lib.hid (fun w => few_any a b w true (decide_eq_true hf).symm)
  clear hf
  have h_ := fun w => Div_any a b w ha hb
  have D1 := Lib.hid h_
  clear h_
  have h_ := fun w => rDiv_any a b w
  have D2 := Lib.hid h_
  clear h_
  generalize (divF a b).1 = r0 at *
  generalize (divF a b).2.1 = r1 at *
  generalize (divF a b).2.2 = r2 at *
  go_enter Try.func5, Try.ntmps5
  have hbl : Below w.heap.size w w := Below.refl _ _
  go_wp2_with fail
  refine (sane_any _).mono ?_
  rintro e w1 ⟨rfl, hb⟩
  replace hbl := hbl.trans (hb.mono hbl.size)
  clear hb
  go_wp2_with fail
  refine (HF.out _).mono ?_
  rintro e w2 ⟨rfl, rfl⟩
  replace hbl := hbl.alloc hbl.size (.cells #[.string a, .string b] 9)
  generalize World.alloc _ _ = w2 at *
  go_wp2_with fail
  refine (D1.out _).mono ?_
  rintro e w3 ⟨rfl, hb⟩
  replace hbl := hbl.trans (hb.mono hbl.size)
  clear hb
  go_wp2_with fail
  refine (D2.out _).mono ?_
  rintro e w4 ⟨rfl, hb⟩
  replace hbl := hbl.trans (hb.mono hbl.size)
  clear hb
  go_wp2_with fail
  go_ret
  exact ⟨ret_bool (by simp), hbl⟩

set_option maxRecDepth 8000 in
set_option maxHeartbeats 2000000 in
theorem div_main (a b : ByteArray) (w : World) (ha : a.size ≤ maxLen) (hb : b.size ≤ maxLen) (hf : few a ∧ few b) (h1 : a.size ≤ 16) (h2 : b.size ≤ 16) :
    Calls Try.prog 5 #[.string a, .string b] w fun e w' => e = .returned (.bool true) ∧ Below w.heap.size w w' := by
  have HF := Lib.hid (fun w => few_any a b w true (decide_eq_true hf).symm)
  clear hf
  have h_ := fun w => Div_any a b w ha hb
  have D1 := Lib.hid h_
  clear h_
  have h_ := fun w => rDiv_any a b w
  have D2 := Lib.hid h_
  clear h_
  have h_ := fun w => Gcd_any a b w ha hb
  have G1 := Lib.hid h_
  clear h_
  have h_ := fun w => rGcd_any a b w
  have G2 := Lib.hid h_
  clear h_
  generalize (divF a b).1 = r0 at *
  generalize (divF a b).2.1 = r1 at *
  generalize (divF a b).2.2 = r2 at *
  generalize (gcdF a b).1 = r3 at *
  generalize (gcdF a b).2 = r4 at *
  go_enter Try.func5, Try.ntmps5
  have hbl : Below w.heap.size w w := Below.refl _ _
  go_wp2_with fail
  refine (sane_any _).mono ?_
  rintro e w1 ⟨rfl, hb⟩
  replace hbl := hbl.trans (hb.mono hbl.size)
  clear hb
  go_wp2_with fail
  refine (HF.out _).mono ?_
  rintro e w2 ⟨rfl, rfl⟩
  replace hbl := hbl.alloc hbl.size (.cells #[.string a, .string b] 9)
  generalize World.alloc _ _ = w2 at *
  go_wp2_with fail
  refine (D1.out _).mono ?_
  rintro e w3 ⟨rfl, hb⟩
  replace hbl := hbl.trans (hb.mono hbl.size)
  clear hb
  go_wp2_with fail
  refine (D2.out _).mono ?_
  rintro e w4 ⟨rfl, hb⟩
  replace hbl := hbl.trans (hb.mono hbl.size)
  clear hb
  go_wp2_with fail
  refine (G1.out _).mono ?_
  rintro e w5 ⟨rfl, hb⟩
  replace hbl := hbl.trans (hb.mono hbl.size)
  clear hb
  go_wp2_with fail
  refine (G2.out _).mono ?_
  rintro e w6 ⟨rfl, hb⟩
  replace hbl := hbl.trans (hb.mono hbl.size)
  clear hb
  go_wp2_with fail
  go_ret
  exact ⟨ret_bool (by simp), hbl⟩

set_option maxRecDepth 8000 in
set_option maxHeartbeats 2000000 in
theorem naturalsDivSpec_walk (a b : ByteArray) (w : World) (ha : a.size ≤ maxLen) (hb : b.size ≤ maxLen) :
    Calls Try.prog 5 #[.string a, .string b] w fun e w' => e = .returned (.bool true) ∧ Below w.heap.size w w' := by
  by_cases hf : few a ∧ few b
  · by_cases h1 : a.size ≤ 16
    · by_cases h2 : b.size ≤ 16
      · exact div_main a b w ha hb hf h1 h2
      · exact div_b a b w ha hb hf h1 (by omega)
    · exact div_a a b w ha hb hf (by omega)
  · exact div_no a b w ha hb hf

end Go.Proofs.Ytlkpphoioocjeaa
