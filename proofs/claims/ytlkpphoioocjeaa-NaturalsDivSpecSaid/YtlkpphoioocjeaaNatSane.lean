/-
  The walks of package naturals: the chapter's examples (sane).
-/
import Derived.Test.YtlkpphoioocjeaaNatApi2
import Derived.Test.YtlkpphoioocjeaaNatApi3
import Derived.Test.YtlkpphoioocjeaaNatAdd
import Derived.Test.YtlkpphoioocjeaaNatMul
namespace Go.Proofs.Ytlkpphoioocjeaa
open Go.RowKit Nm

theorem sc0 : ofF 256 = (⟨#[1, 0]⟩, 0) := by decide +kernel
theorem sane0 (w : World) : Calls Try.prog 12 #[.int .i64 256] w fun e w' => e = .returned (.tuple #[.string ⟨#[1, 0]⟩, .int .i64 0]) ∧ Below w.heap.size w w' := by
  have h := Of_any 256 w (by omega) (by omega)
  rw [sc0] at h
  exact h
theorem sc1 : ofF 0 = (⟨#[]⟩, 0) := by decide +kernel
theorem sane1 (w : World) : Calls Try.prog 12 #[.int .i64 0] w fun e w' => e = .returned (.tuple #[.string ⟨#[]⟩, .int .i64 0]) ∧ Below w.heap.size w w' := by
  have h := Of_any 0 w (by omega) (by omega)
  rw [sc1] at h
  exact h
theorem sc2 : ofF (-1) = (⟨#[]⟩, 1) := by decide +kernel
theorem sane2 (w : World) : Calls Try.prog 12 #[.int .i64 (-1)] w fun e w' => e = .returned (.tuple #[.string ⟨#[]⟩, .int .i64 1]) ∧ Below w.heap.size w w' := by
  have h := Of_any (-1) w (by omega) (by omega)
  rw [sc2] at h
  exact h
theorem sc3 : intF ⟨#[1, 0]⟩ = (256, true) := by decide +kernel
theorem sane3 (w : World) : Calls Try.prog 14 #[.string ⟨#[1, 0]⟩] w fun e w' => e = .returned (.tuple #[.int .i64 256, .bool true]) ∧ Below w.heap.size w w' := by
  have h := Int_any ⟨#[1, 0]⟩ w (by decide)
  rw [sc3] at h
  exact h.mono fun e w' ⟨h1, h2⟩ => ⟨h1, h2 ▸ Below.refl _ _⟩
theorem sc4 : intF ⟨#[128, 0, 0, 0, 0, 0, 0, 0]⟩ = (0, false) := by decide +kernel
theorem sane4 (w : World) : Calls Try.prog 14 #[.string ⟨#[128, 0, 0, 0, 0, 0, 0, 0]⟩] w fun e w' => e = .returned (.tuple #[.int .i64 0, .bool false]) ∧ Below w.heap.size w w' := by
  have h := Int_any ⟨#[128, 0, 0, 0, 0, 0, 0, 0]⟩ w (by decide)
  rw [sc4] at h
  exact h.mono fun e w' ⟨h1, h2⟩ => ⟨h1, h2 ▸ Below.refl _ _⟩
theorem sc5 : addF ⟨#[255]⟩ ⟨#[1]⟩ = (⟨#[1, 0]⟩, 0) := by decide +kernel
theorem sane5 (w : World) : Calls Try.prog 20 #[.string ⟨#[255]⟩, .string ⟨#[1]⟩] w fun e w' => e = .returned (.tuple #[.string ⟨#[1, 0]⟩, .int .i64 0]) ∧ Below w.heap.size w w' := by
  have h := add_loop ⟨#[255]⟩ ⟨#[1]⟩ w (by decide) (by decide)
  rw [sc5] at h
  exact h
theorem sc6 : subF ⟨#[1, 0]⟩ ⟨#[1]⟩ = (⟨#[255]⟩, 0) := by decide +kernel
theorem sane6 (w : World) : Calls Try.prog 22 #[.string ⟨#[1, 0]⟩, .string ⟨#[1]⟩] w fun e w' => e = .returned (.tuple #[.string ⟨#[255]⟩, .int .i64 0]) ∧ Below w.heap.size w w' := by
  have h := Sub_any ⟨#[1, 0]⟩ ⟨#[1]⟩ w (by decide) (by decide)
  rw [sc6] at h
  exact h
theorem sc7 : subF ⟨#[1]⟩ ⟨#[2]⟩ = (⟨#[]⟩, 1) := by decide +kernel
theorem sane7 (w : World) : Calls Try.prog 22 #[.string ⟨#[1]⟩, .string ⟨#[2]⟩] w fun e w' => e = .returned (.tuple #[.string ⟨#[]⟩, .int .i64 1]) ∧ Below w.heap.size w w' := by
  have h := Sub_any ⟨#[1]⟩ ⟨#[2]⟩ w (by decide) (by decide)
  rw [sc7] at h
  exact h
theorem sc8 : mulF ⟨#[255]⟩ ⟨#[255]⟩ = (⟨#[254, 1]⟩, 0) := by decide +kernel
theorem sane8 (w : World) : Calls Try.prog 24 #[.string ⟨#[255]⟩, .string ⟨#[255]⟩] w fun e w' => e = .returned (.tuple #[.string ⟨#[254, 1]⟩, .int .i64 0]) ∧ Below w.heap.size w w' := by
  have h := Mul_any ⟨#[255]⟩ ⟨#[255]⟩ w (by decide) (by decide)
  rw [sc8] at h
  exact h
theorem sc9 : divF ⟨#[3, 232]⟩ ⟨#[1, 0]⟩ = (⟨#[3]⟩, ⟨#[232]⟩, 0) := by decide +kernel
theorem sane9 (w : World) : Calls Try.prog 27 #[.string ⟨#[3, 232]⟩, .string ⟨#[1, 0]⟩] w fun e w' => e = .returned (.tuple #[.string ⟨#[3]⟩, .string ⟨#[232]⟩, .int .i64 0]) ∧ Below w.heap.size w w' := by
  have h := Div_any ⟨#[3, 232]⟩ ⟨#[1, 0]⟩ w (by decide) (by decide)
  rw [sc9] at h
  exact h
theorem sc10 : divF ⟨#[5]⟩ ⟨#[]⟩ = (⟨#[]⟩, ⟨#[]⟩, 71) := by decide +kernel
theorem sane10 (w : World) : Calls Try.prog 27 #[.string ⟨#[5]⟩, .string ⟨#[]⟩] w fun e w' => e = .returned (.tuple #[.string ⟨#[]⟩, .string ⟨#[]⟩, .int .i64 71]) ∧ Below w.heap.size w w' := by
  have h := Div_any ⟨#[5]⟩ ⟨#[]⟩ w (by decide) (by decide)
  rw [sc10] at h
  exact h
theorem sc11 : gcdF ⟨#[12]⟩ ⟨#[18]⟩ = (⟨#[6]⟩, 0) := by decide +kernel
theorem sane11 (w : World) : Calls Try.prog 29 #[.string ⟨#[12]⟩, .string ⟨#[18]⟩] w fun e w' => e = .returned (.tuple #[.string ⟨#[6]⟩, .int .i64 0]) ∧ Below w.heap.size w w' := by
  have h := Gcd_any ⟨#[12]⟩ ⟨#[18]⟩ w (by decide) (by decide)
  rw [sc11] at h
  exact h
theorem sc12 : cmpF ⟨#[1, 0]⟩ ⟨#[255]⟩ = (1, 0) := by decide +kernel
theorem sane12 (w : World) : Calls Try.prog 16 #[.string ⟨#[1, 0]⟩, .string ⟨#[255]⟩] w fun e w' => e = .returned (.tuple #[.int .i64 1, .int .i64 0]) ∧ Below w.heap.size w w' := by
  have h := Compare_any ⟨#[1, 0]⟩ ⟨#[255]⟩ w (by decide) (by decide)
  rw [sc12] at h
  exact h
theorem sc13 : chkN [⟨#[0]⟩] = 60 := by decide +kernel
theorem sane13 (w : World) : Calls Try.prog 18 #[.string ⟨#[0]⟩] w fun e w' => e = .returned (.int .i64 60) ∧ Below w.heap.size w w' := by
  have h := Check_any ⟨#[0]⟩ w (by decide)
  rw [sc13] at h
  exact h
theorem sc14 : chkN [⟨#[]⟩] = 0 := by decide +kernel
theorem sane14 (w : World) : Calls Try.prog 18 #[.string ⟨#[]⟩] w fun e w' => e = .returned (.int .i64 0) ∧ Below w.heap.size w w' := by
  have h := Check_any ⟨#[]⟩ w (by decide)
  rw [sc14] at h
  exact h

set_option maxRecDepth 100000 in
set_option maxHeartbeats 4000000 in
theorem sane_any (w : World) : Calls Try.prog 11 #[] w fun e w' => e = .returned (.bool true) ∧ Below w.heap.size w w' := by
  go_enter Try.func11, Try.ntmps11
  have hbl : Below w.heap.size w w := Below.refl _ _
  go_wp2_with fail
  refine (sane0 _).mono ?_
  rintro e w0 ⟨rfl, hb⟩
  replace hbl := hbl.trans (hb.mono hbl.size)
  clear hb
  go_wp2_with fail
  refine (sane1 _).mono ?_
  rintro e w1 ⟨rfl, hb⟩
  replace hbl := hbl.trans (hb.mono hbl.size)
  clear hb
  go_wp2_with fail
  refine (sane2 _).mono ?_
  rintro e w2 ⟨rfl, hb⟩
  replace hbl := hbl.trans (hb.mono hbl.size)
  clear hb
  go_wp2_with fail
  refine (sane3 _).mono ?_
  rintro e w3 ⟨rfl, hb⟩
  replace hbl := hbl.trans (hb.mono hbl.size)
  clear hb
  go_wp2_with fail
  refine (sane4 _).mono ?_
  rintro e w4 ⟨rfl, hb⟩
  replace hbl := hbl.trans (hb.mono hbl.size)
  clear hb
  go_wp2_with fail
  refine (sane5 _).mono ?_
  rintro e w5 ⟨rfl, hb⟩
  replace hbl := hbl.trans (hb.mono hbl.size)
  clear hb
  go_wp2_with fail
  refine (sane6 _).mono ?_
  rintro e w6 ⟨rfl, hb⟩
  replace hbl := hbl.trans (hb.mono hbl.size)
  clear hb
  go_wp2_with fail
  refine (sane7 _).mono ?_
  rintro e w7 ⟨rfl, hb⟩
  replace hbl := hbl.trans (hb.mono hbl.size)
  clear hb
  go_wp2_with fail
  refine (sane8 _).mono ?_
  rintro e w8 ⟨rfl, hb⟩
  replace hbl := hbl.trans (hb.mono hbl.size)
  clear hb
  go_wp2_with fail
  refine (sane9 _).mono ?_
  rintro e w9 ⟨rfl, hb⟩
  replace hbl := hbl.trans (hb.mono hbl.size)
  clear hb
  go_wp2_with fail
  refine (sane10 _).mono ?_
  rintro e w10 ⟨rfl, hb⟩
  replace hbl := hbl.trans (hb.mono hbl.size)
  clear hb
  go_wp2_with fail
  refine (sane11 _).mono ?_
  rintro e w11 ⟨rfl, hb⟩
  replace hbl := hbl.trans (hb.mono hbl.size)
  clear hb
  go_wp2_with fail
  refine (sane12 _).mono ?_
  rintro e w12 ⟨rfl, hb⟩
  replace hbl := hbl.trans (hb.mono hbl.size)
  clear hb
  go_wp2_with fail
  refine (sane13 _).mono ?_
  rintro e w13 ⟨rfl, hb⟩
  replace hbl := hbl.trans (hb.mono hbl.size)
  clear hb
  go_wp2_with fail
  refine (sane14 _).mono ?_
  rintro e w14 ⟨rfl, hb⟩
  replace hbl := hbl.trans (hb.mono hbl.size)
  clear hb
  go_wp2_with fail
  go_ret
  exact ⟨rfl, hbl⟩

end Go.Proofs.Ytlkpphoioocjeaa
