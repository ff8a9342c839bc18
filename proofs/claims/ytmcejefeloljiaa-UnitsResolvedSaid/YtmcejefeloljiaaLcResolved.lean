/-
  'UnitsResolved': for every input the law returns true; each argument reads behind the call as it read before. No conditions.
-/
import Derived.Test.YtmcejefeloljiaaRows
import Derived.Test.YtmcejefeloljiaaPc7
import Derived.WalkKit
import Derived.ProofKit
import Derived.OpenShut
import Derived.ShutString
import Derived.Carry
namespace Go.Proofs.Ytmcejefeloljiaa.unitsResolved
open Go.ChangeShapes Go.WideShapes Go.ChangeAt Go.RowKit Nm Go.SX
set_option linter.unusedVariables false

theorem own : ownKnob Try.prog.godebug = none := by kernel_rfl
theorem laid : laidOutB Try.prog = true := by kernel_rfl

set_option maxRecDepth 100000 in
theorem lifted (os : Os) (started : os.Started) (H : Type) (enc : TypeId × Value → H) :
    ReturnsInHanded {} Try.checked os 5 .any (Rows.unitsResolvedSpec.pre6 enc Try.prog Try.f5 Rows.unitsResolvedRow.domain false) (Rows.unitsResolvedSpec.post enc Try.prog Try.f5 false true false false) := by
  refine returnsInHanded_of_change (C := Try.checked) own started (by kernel_rfl) Try.func5
    (ChangeSpec.witness6 (enc := enc) (C := Try.checked) false ⟨#[], #[.slice none 0 0], []⟩ 8 (by kernel_rfl) (by kernel_rfl) (by kernel_rfl) (by kernel_rfl)) ?_
  intro W base args ds gs before hval0 hW hcnd _
  have hval : ∀ (j : Nat) t v, Try.f5.params[j]? = some t → args[j]? = some v → Value.okWide Try.prog W .any base t v := hval0
  have hW' := hW
  obtain ⟨p, q, hA0, hV, rfl, hfz, hnd⟩ := hW
  have hA : DataW.TrodAll enc Try.prog W 0 (fun _ => true) true Try.f5.params.toList args.toList ds p := hA0
  rw [Try.params5] at hA hval
  obtain ⟨v0, vs0, d0, ds0, p0, q0, hargs, rfl, rfl, h0, r0⟩ := trodAll_cons hA
  obtain ⟨rfl, rfl, rfl⟩ := trodAll_nil r0
  obtain rfl : args = #[v0] := by cases args; simp_all
  obtain ⟨rfl, rfl⟩ := trodVars_none hV
  obtain ⟨sa0, sb0, sc0, rfl⟩ := okWide_slice Try.underlying38 (hval 0 38 v0 rfl rfl)
  obtain ⟨fu0, hf0⟩ := h0
  obtain ⟨y0, hy0, wf0⟩ := open_ty (fun _ => rfl) 12 fu0 38 (.sl unitT) _ _ (by kernel_rfl) hf0
  have R0 := svA_one (w := W) (ty := .sl unitT) hy0
  have lt0 := DataW.trod_lt _ _ _ _ hf0
  clear hA0 hval0
  simp only [List.append_nil] at hW'
  refine (unitsResolved_law y0 wf0 W (zAll W) _ (zAll_ok W) ⟨_, _, rfl, R0, rfl⟩).mono fun e W' ⟨bel, z', _, _, _, u, he, hu⟩ => ?_
  have hu' : u = .bool true := hu
  subst hu'
  subst he
  exact ⟨_, rfl, _, _, _, [], _, [], hW', trodAll_mk1 (shut_bool Try.underlying4 _), (trodAll_cons_mk (Below.trod laid (by kernel_rfl) (of_decide_eq_true (by kernel_rfl)) ⟨fu0, hf0⟩ bel lt0) trodAll_mk0), rfl, bel.frame _, fun h => by cases h⟩

theorem over : Rows.unitsResolvedRow.holds Try.pinned (OpenSpec.ofChange Rows.unitsResolvedSpec) :=
  OpenClaim.holds_of_wide 5 Try.f5 rfl rfl rfl rfl rfl rfl rfl ⟨rfl, rfl, rfl, rfl, rfl⟩ rfl rfl rfl rfl rfl (by kernel_rfl) Try.func5 (by kernel_rfl)
    (of_decide_eq_true (by kernel_rfl)) (by unfold Func.isWrapper; first | (rw [if_pos (by decide +kernel)]; kernel_rfl) | (rw [if_neg (by decide +kernel)]; exact ⟨rfl, rfl⟩))
    (fun os started H enc _ => lifted os started H enc)

theorem proved : Rows.UnitsResolvedSaid := over

end Go.Proofs.Ytmcejefeloljiaa.unitsResolved
