/-
  'UnitsMore': for every input the law returns true; each argument reads behind the call as it read before. No conditions.
-/
import Derived.Test.YtmcejefeloljiaaRows
import Derived.Test.YtmcejefeloljiaaPd7
import Derived.WalkKit
import Derived.ProofKit
import Derived.OpenShut
import Derived.ShutString
import Derived.Carry
namespace Go.Proofs.Ytmcejefeloljiaa.unitsMore
open Go.ChangeShapes Go.WideShapes Go.ChangeAt Go.RowKit Nm Go.SX
set_option linter.unusedVariables false

theorem own : ownKnob Try.prog.godebug = none := by kernel_rfl
theorem laid : laidOutB Try.prog = true := by kernel_rfl
def zeroOf (P : Program) (t : TypeId) : Value := ((P.info? t).bind (·.zero)).getD undef

set_option maxRecDepth 100000 in
theorem lifted (os : Os) (started : os.Started) (H : Type) (enc : TypeId × Value → H) :
    ReturnsInHanded {} Try.checked os 7 .any (Rows.unitsMoreSpec.pre6 enc Try.prog Try.f7 Rows.unitsMoreRow.domain false) (Rows.unitsMoreSpec.post enc Try.prog Try.f7 false true false false) := by
  refine returnsInHanded_of_change (C := Try.checked) own started (by kernel_rfl) Try.func7
    (ChangeSpec.witness6 (enc := enc) (C := Try.checked) false ⟨#[], #[.slice none 0 0, (zeroOf Try.prog 45), .int .i64 0, .int .i64 0, (zeroOf Try.prog 23)], []⟩ 8 (by kernel_rfl) (by kernel_rfl) (by kernel_rfl) (by kernel_rfl)) ?_
  intro W base args ds gs before hval0 hW hcnd _
  have hval : ∀ (j : Nat) t v, Try.f7.params[j]? = some t → args[j]? = some v → Value.okWide Try.prog W .any base t v := hval0
  have hW' := hW
  obtain ⟨p, q, hA0, hV, rfl, hfz, hnd⟩ := hW
  have hA : DataW.TrodAll enc Try.prog W 0 (fun _ => true) true Try.f7.params.toList args.toList ds p := hA0
  rw [Try.params7] at hA hval
  obtain ⟨v0, vs0, d0, ds0, p0, q0, hargs, rfl, rfl, h0, r0⟩ := trodAll_cons hA
  obtain ⟨v1, vs1, d1, ds1, p1, q1, rfl, rfl, rfl, h1, r1⟩ := trodAll_cons r0
  obtain ⟨v2, vs2, d2, ds2, p2, q2, rfl, rfl, rfl, h2, r2⟩ := trodAll_cons r1
  obtain ⟨v3, vs3, d3, ds3, p3, q3, rfl, rfl, rfl, h3, r3⟩ := trodAll_cons r2
  obtain ⟨v4, vs4, d4, ds4, p4, q4, rfl, rfl, rfl, h4, r4⟩ := trodAll_cons r3
  obtain ⟨rfl, rfl, rfl⟩ := trodAll_nil r4
  obtain rfl : args = #[v0, v1, v2, v3, v4] := by cases args; simp_all
  obtain ⟨rfl, rfl⟩ := trodVars_none hV
  obtain ⟨sa0, sb0, sc0, rfl⟩ := okWide_slice Try.underlying38 (hval 0 38 v0 rfl rfl)
  obtain ⟨fu0, hf0⟩ := h0
  obtain ⟨y0, hy0, wf0⟩ := open_ty (fun _ => rfl) 12 fu0 38 (.sl unitT) _ _ (by kernel_rfl) hf0
  have R0 := svA_one (w := W) (ty := .sl unitT) hy0
  have lt0 := DataW.trod_lt _ _ _ _ hf0
  obtain ⟨c1, rfl, _⟩ := okWide_struct Try.underlying45 (hval 1 45 v1 rfl rfl)
  obtain ⟨fu1, hf1⟩ := h1
  obtain ⟨y1, hy1, wf1⟩ := open_ty (fun _ => rfl) 12 fu1 45 (unitT) _ _ (by kernel_rfl) hf1
  have R1 := svA_agg (w := W) (ty := unitT) hy1
  have lt1 := DataW.trod_lt _ _ _ _ hf1
  obtain ⟨n2, rfl⟩ := okWide_int Try.underlying3 (hval 2 3 v2 rfl rfl)
  obtain ⟨fu2, hf2⟩ := h2
  obtain ⟨y2, hy2, wf2⟩ := open_ty (fun _ => rfl) 12 fu2 3 (.int .i64) _ _ (by kernel_rfl) hf2
  have R2 := svA_one (w := W) (ty := .int .i64) hy2
  have lt2 := DataW.trod_lt _ _ _ _ hf2
  obtain ⟨n3, rfl⟩ := okWide_int Try.underlying3 (hval 3 3 v3 rfl rfl)
  obtain ⟨fu3, hf3⟩ := h3
  obtain ⟨y3, hy3, wf3⟩ := open_ty (fun _ => rfl) 12 fu3 3 (.int .i64) _ _ (by kernel_rfl) hf3
  have R3 := svA_one (w := W) (ty := .int .i64) hy3
  have lt3 := DataW.trod_lt _ _ _ _ hf3
  obtain ⟨c4, rfl, _⟩ := okWide_struct Try.underlying23 (hval 4 23 v4 rfl rfl)
  obtain ⟨fu4, hf4⟩ := h4
  obtain ⟨y4, hy4, wf4⟩ := open_ty (fun _ => rfl) 12 fu4 23 (ratT) _ _ (by kernel_rfl) hf4
  have R4 := svA_agg (w := W) (ty := ratT) hy4
  have lt4 := DataW.trod_lt _ _ _ _ hf4
  clear hA0 hval0
  simp only [List.append_nil] at hW'
  refine (unitsMore_law y0 y1 y2 y3 y4 wf0 wf1 wf2 wf3 wf4 W (zAll W) _ (zAll_ok W) ⟨_, _, rfl, R0, ⟨_, _, rfl, R1, ⟨_, _, rfl, R2, ⟨_, _, rfl, R3, ⟨_, _, rfl, R4, rfl⟩⟩⟩⟩⟩).mono fun e W' ⟨bel, z', _, _, _, u, he, hu⟩ => ?_
  have hu' : u = .bool true := hu
  subst hu'
  subst he
  exact ⟨_, rfl, _, _, _, [], _, [], hW', trodAll_mk1 (shut_bool Try.underlying4 _), (trodAll_cons_mk (Below.trod laid (by kernel_rfl) (of_decide_eq_true (by kernel_rfl)) ⟨fu0, hf0⟩ bel lt0) (trodAll_cons_mk (Below.trod laid (by kernel_rfl) (of_decide_eq_true (by kernel_rfl)) ⟨fu1, hf1⟩ bel lt1) (trodAll_cons_mk (Below.trod laid (by kernel_rfl) (of_decide_eq_true (by kernel_rfl)) ⟨fu2, hf2⟩ bel lt2) (trodAll_cons_mk (Below.trod laid (by kernel_rfl) (of_decide_eq_true (by kernel_rfl)) ⟨fu3, hf3⟩ bel lt3) (trodAll_cons_mk (Below.trod laid (by kernel_rfl) (of_decide_eq_true (by kernel_rfl)) ⟨fu4, hf4⟩ bel lt4) trodAll_mk0))))), rfl, bel.frame _, fun h => by cases h⟩

theorem over : Rows.unitsMoreRow.holds Try.pinned (OpenSpec.ofChange Rows.unitsMoreSpec) :=
  OpenClaim.holds_of_wide 7 Try.f7 rfl rfl rfl rfl rfl rfl rfl ⟨rfl, rfl, rfl, rfl, rfl⟩ rfl rfl rfl rfl rfl (by kernel_rfl) Try.func7 (by kernel_rfl)
    (of_decide_eq_true (by kernel_rfl)) (by unfold Func.isWrapper; first | (rw [if_pos (by decide +kernel)]; kernel_rfl) | (rw [if_neg (by decide +kernel)]; exact ⟨rfl, rfl⟩))
    (fun os started H enc _ => lifted os started H enc)

theorem proved : Rows.UnitsMoreSaid := over

end Go.Proofs.Ytmcejefeloljiaa.unitsMore
