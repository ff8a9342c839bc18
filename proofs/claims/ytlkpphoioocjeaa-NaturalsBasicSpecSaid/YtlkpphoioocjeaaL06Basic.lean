/-
  The laws of chapter 06: the walk of NaturalsBasicSpec.
-/
import Derived.Test.YtlkpphoioocjeaaLaw06
import Derived.Test.YtlkpphoioocjeaaRefB
namespace Go.Proofs.Ytlkpphoioocjeaa
open Go.RowKit Nm

set_option maxRecDepth 8000 in
set_option maxHeartbeats 2000000 in
theorem basic_1 (a b : ByteArray) (n : Int) (w : World) (ha : a.size ≤ maxLen) (hb : b.size ≤ maxLen) (n1 : -9223372036854775808 ≤ n) (n2 : n ≤ 9223372036854775807) (h1 : 1000 < a.size) :
    Calls Try.prog 3 #[.string a, .string b, .int .i64 n] w fun e w' => e = .returned (.bool true) ∧ Below w.heap.size w w' := by
  go_enter Try.func3, Try.ntmps3
  have hbl : Below w.heap.size w w := Below.refl _ _
  go_wp2_with fail
  refine (sane_any _).mono ?_
  rintro e w1 ⟨rfl, hb⟩
  replace hbl := hbl.trans (hb.mono hbl.size)
  clear hb
  go_wp2_with fail
  go_ret
  exact ⟨rfl, hbl⟩

set_option maxRecDepth 8000 in
set_option maxHeartbeats 2000000 in
theorem basic_2 (a b : ByteArray) (n : Int) (w : World) (ha : a.size ≤ maxLen) (hb : b.size ≤ maxLen) (n1 : -9223372036854775808 ≤ n) (n2 : n ≤ 9223372036854775807) (h1 : a.size ≤ 1000) (h2 : 1000 < b.size) :
    Calls Try.prog 3 #[.string a, .string b, .int .i64 n] w fun e w' => e = .returned (.bool true) ∧ Below w.heap.size w w' := by
  go_enter Try.func3, Try.ntmps3
  have hbl : Below w.heap.size w w := Below.refl _ _
  go_wp2_with fail
  refine (sane_any _).mono ?_
  rintro e w1 ⟨rfl, hb⟩
  replace hbl := hbl.trans (hb.mono hbl.size)
  clear hb
  go_wp2_with fail
  go_ret
  exact ⟨rfl, hbl⟩

set_option maxRecDepth 8000 in
set_option maxHeartbeats 2000000 in
theorem basic_main (a b : ByteArray) (n : Int) (w : World) (ha : a.size ≤ maxLen) (hb : b.size ≤ maxLen) (n1 : -9223372036854775808 ≤ n) (n2 : n ≤ 9223372036854775807) (h1 : a.size ≤ 1000) (h2 : b.size ≤ 1000) :
    Calls Try.prog 3 #[.string a, .string b, .int .i64 n] w fun e w' => e = .returned (.bool true) ∧ Below w.heap.size w w' := by
  have h_ := fun w => Of_any n w n1 n2
  have O1 := Lib.hid h_
  clear h_
  have h_ := fun w => rOf_any n w n1 n2
  have O2 := Lib.hid h_
  clear h_
  have h_ := fun w => (Int_any a w ha).mono fun e w' ⟨h1, h2⟩ => (⟨h1, h2 ▸ Below.refl _ _⟩ : e = Ending.returned (.tuple #[.int .i64 (intF a).1, .bool (intF a).2]) ∧ Below w.heap.size w w')
  have I1 := Lib.hid h_
  clear h_
  have h_ := fun w => (rInt_any a w ha).mono fun e w' ⟨h1, h2⟩ => (⟨h1, h2 ▸ Below.refl _ _⟩ : e = Ending.returned (.tuple #[.int .i64 (intF a).1, .bool (intF a).2]) ∧ Below w.heap.size w w')
  have I2 := Lib.hid h_
  clear h_
  have h_ := fun w => Compare_any a b w ha hb
  have C1 := Lib.hid h_
  clear h_
  have h_ := fun w => (rCompare_any a b w ha hb).mono fun e w' ⟨h1, k, h2⟩ => (⟨h1, h2 ▸ below_drewN (Below.refl _ _) k⟩ : e = Ending.returned (.tuple #[.int .i64 (cmpF a b).1, .int .i64 (cmpF a b).2]) ∧ Below w.heap.size w w')
  have C2 := Lib.hid h_
  clear h_
  have h_ := fun w => Check_any a w ha
  have K1 := Lib.hid h_
  clear h_
  have h_ := fun w => (rCheck_any a w ha).mono fun e w' ⟨h1, h2⟩ => (⟨h1, h2 ▸ Below.refl _ _⟩ : e = Ending.returned (.int .i64 (chkN [a])) ∧ Below w.heap.size w w')
  have K2 := Lib.hid h_
  clear h_
  generalize (ofF n).1 = r0 at *
  generalize (ofF n).2 = r1 at *
  generalize (intF a).1 = r2 at *
  generalize (intF a).2 = r3 at *
  generalize (cmpF a b).1 = r4 at *
  generalize (cmpF a b).2 = r5 at *
  generalize chkN [a] = r6 at *
  go_enter Try.func3, Try.ntmps3
  have hbl : Below w.heap.size w w := Below.refl _ _
  go_wp2_with fail
  refine (sane_any _).mono ?_
  rintro e w1 ⟨rfl, hb⟩
  replace hbl := hbl.trans (hb.mono hbl.size)
  clear hb
  go_wp2_with fail
  refine (O1.out _).mono ?_
  rintro e w2 ⟨rfl, hb⟩
  replace hbl := hbl.trans (hb.mono hbl.size)
  clear hb
  go_wp2_with fail
  refine (O2.out _).mono ?_
  rintro e w3 ⟨rfl, hb⟩
  replace hbl := hbl.trans (hb.mono hbl.size)
  clear hb
  go_wp2_with fail
  refine (I1.out _).mono ?_
  rintro e w4 ⟨rfl, hb⟩
  replace hbl := hbl.trans (hb.mono hbl.size)
  clear hb
  go_wp2_with fail
  refine (I2.out _).mono ?_
  rintro e w5 ⟨rfl, hb⟩
  replace hbl := hbl.trans (hb.mono hbl.size)
  clear hb
  go_wp2_with fail
  refine (C1.out _).mono ?_
  rintro e w6 ⟨rfl, hb⟩
  replace hbl := hbl.trans (hb.mono hbl.size)
  clear hb
  go_wp2_with fail
  refine (C2.out _).mono ?_
  rintro e w7 ⟨rfl, hb⟩
  replace hbl := hbl.trans (hb.mono hbl.size)
  clear hb
  go_wp2_with fail
  refine (K1.out _).mono ?_
  rintro e w8 ⟨rfl, hb⟩
  replace hbl := hbl.trans (hb.mono hbl.size)
  clear hb
  go_wp2_with fail
  refine (K2.out _).mono ?_
  rintro e w9 ⟨rfl, hb⟩
  replace hbl := hbl.trans (hb.mono hbl.size)
  clear hb
  go_wp2_with fail
  go_ret
  exact ⟨ret_bool (by simp), hbl⟩

set_option maxRecDepth 8000 in
set_option maxHeartbeats 2000000 in
theorem naturalsBasicSpec_walk (a b : ByteArray) (n : Int) (w : World) (ha : a.size ≤ maxLen) (hb : b.size ≤ maxLen) (n1 : -9223372036854775808 ≤ n) (n2 : n ≤ 9223372036854775807) :
    Calls Try.prog 3 #[.string a, .string b, .int .i64 n] w fun e w' => e = .returned (.bool true) ∧ Below w.heap.size w w' := by
  by_cases h1 : a.size ≤ 1000
  · by_cases h2 : b.size ≤ 1000
    · exact basic_main a b n w ha hb n1 n2 h1 h2
    · exact basic_2 a b n w ha hb n1 n2 h1 (by omega)
  · exact basic_1 a b n w ha hb n1 n2 (by omega)

end Go.Proofs.Ytlkpphoioocjeaa
