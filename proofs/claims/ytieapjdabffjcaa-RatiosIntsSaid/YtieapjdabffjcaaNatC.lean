/-
  The contracts of package naturals, as a table for the symbolic executor.
-/
import Derived.Test.YtieapjdabffjcaaSxH
import Derived.Test.YtieapjdabffjcaaRt
import Derived.Test.YtieapjdabffjcaaNatApi2
import Derived.Test.YtieapjdabffjcaaNatApi3
import Derived.Test.YtieapjdabffjcaaNatAdd
import Derived.Test.YtieapjdabffjcaaNatMul
namespace Go.Proofs.Ytieapjdabffjcaa
open Go.RowKit Nm Go.SX

/-- a text by its bytes -/
def bs (l : List UInt8) : ByteArray := ⟨⟨l⟩⟩
/-- a text that memory holds -/
def szB (a : ByteArray) : Bool := decide (a.size ≤ maxLen)
theorem szB_iff {a : ByteArray} : szB a = true ↔ a.size ≤ maxLen := by simp [szB]
def inI (n : Int) : Bool := decide (-9223372036854775808 ≤ n) && decide (n ≤ 9223372036854775807)
def two (f : ByteArray → ByteArray → ByteArray × Int) (vs : List Value) : R3 OutE :=
  match vs with
  | [.string a, .string b] => .need (szB a && szB b) (.ok (.ret (.tup [.val (.string (f a b).1), .val (.int .i64 (f a b).2)])))
  | _ => .no
def natCon : ECon := fun f =>
  match f with
  | 82 => some (two addF)
  | 80 => some (two mulF)
  | 95 => some (two subF)
  | 46 => some (two gcdF)
  | 81 => some fun vs => match vs with
    | [.string a, .string b] => .need (szB a && szB b) (.ok (.ret (.tup [.val (.int .i64 (cmpF a b).1), .val (.int .i64 (cmpF a b).2)])))
    | _ => .no
  | 39 => some fun vs => match vs with
    | [.string a, .string b] => .need (szB a && szB b) (.ok (.ret (.tup [.val (.string (divF a b).1), .val (.string (divF a b).2.1), .val (.int .i64 (divF a b).2.2)])))
    | _ => .no
  | 45 => some fun vs => match vs with
    | [.string a] => .need (szB a) (.ok (.ret (.val (.int .i64 (chkN [a])))))
    | _ => .no
  | 59 => some fun vs => match vs with
    | [.int .i64 n] => .need (inI n) (.ok (.ret (.tup [.val (.string (ofF n).1), .val (.int .i64 (ofF n).2)])))
    | _ => .no
  | 40 => some fun vs => match vs with
    | [.string a] => .need (szB a) (.ok (.ret (.tup [.val (.int .i64 (intF a).1), .val (.bool (intF a).2)])))
    | _ => .no
  | _ => none
theorem pOk : POk Try.prog := by
  refine ⟨?_, by kernel_rfl⟩
  have h : Try.prog.funcs.toList.all (fun fn => fn.body.isNone || !(fn.name == "runtime.NumGoroutine")) = true := by kernel_rfl
  intro f fn hf hb
  have h1 := List.all_eq_true.1 h fn (by rw [Array.mem_toList_iff]; exact Array.mem_of_getElem? hf)
  have h2 : fn.body.isNone = false := by cases hx : fn.body <;> simp_all
  rw [h2] at h1
  simpa using h1
theorem two_ok {f : FuncId} {g : ByteArray → ByteArray → ByteArray × Int} (h : ∀ a b w, a.size ≤ maxLen → b.size ≤ maxLen → Calls Try.prog f #[.string a, .string b] w fun e w' => e = .returned (.tuple #[.string (g a b).1, .int .i64 (g a b).2]) ∧ Below w.heap.size w w')
    (vs : List Value) (e : OutE) (he : (two g vs).res = some e) : ∃ e0, e.end = some e0 ∧ Plain Try.prog f vs e0 := by
  unfold two at he
  split at he
  · obtain ⟨h1, h2⟩ := R3.need_some he
    cases h2
    rw [Bool.and_eq_true, szB_iff, szB_iff] at h1
    exact ⟨_, rfl, fun w => h _ _ w h1.1 h1.2⟩
  · cases he
theorem natCon_ok : EConOk Try.prog natCon := by
  intro f h hf
  unfold natCon at hf
  split at hf <;> first | (cases hf; done) | skip
  · cases hf; exact ⟨⟨_, Try.func82, rfl⟩, two_ok fun a b w ha hb => add_loop a b w ha hb⟩
  · cases hf; exact ⟨⟨_, Try.func80, rfl⟩, two_ok fun a b w ha hb => Mul_any a b w ha hb⟩
  · cases hf; exact ⟨⟨_, Try.func95, rfl⟩, two_ok fun a b w ha hb => Sub_any a b w ha hb⟩
  · cases hf; exact ⟨⟨_, Try.func46, rfl⟩, two_ok fun a b w ha hb => Gcd_any a b w ha hb⟩
  · cases hf
    refine ⟨⟨_, Try.func81, rfl⟩, fun vs e he => ?_⟩
    simp only at he
    split at he
    · obtain ⟨h1, h2⟩ := R3.need_some he
      cases h2
      rw [Bool.and_eq_true, szB_iff, szB_iff] at h1
      exact ⟨_, rfl, fun w => Compare_any _ _ w h1.1 h1.2⟩
    · cases he
  · cases hf
    refine ⟨⟨_, Try.func39, rfl⟩, fun vs e he => ?_⟩
    simp only at he
    split at he
    · obtain ⟨h1, h2⟩ := R3.need_some he
      cases h2
      rw [Bool.and_eq_true, szB_iff, szB_iff] at h1
      exact ⟨_, rfl, fun w => Div_any _ _ w h1.1 h1.2⟩
    · cases he
  · cases hf
    refine ⟨⟨_, Try.func45, rfl⟩, fun vs e he => ?_⟩
    simp only at he
    split at he
    · obtain ⟨h1, h2⟩ := R3.need_some he
      cases h2
      exact ⟨_, rfl, fun w => Check_any _ w (szB_iff.1 h1)⟩
    · cases he
  · cases hf
    refine ⟨⟨_, Try.func59, rfl⟩, fun vs e he => ?_⟩
    simp only at he
    split at he
    · obtain ⟨h1, h2⟩ := R3.need_some he
      cases h2
      unfold inI at h1
      rw [Bool.and_eq_true] at h1
      exact ⟨_, rfl, fun w => Of_any _ w (of_decide_eq_true h1.1) (of_decide_eq_true h1.2)⟩
    · cases he
  · cases hf
    refine ⟨⟨_, Try.func40, rfl⟩, fun vs e he => ?_⟩
    simp only at he
    split at he
    · obtain ⟨h1, h2⟩ := R3.need_some he
      cases h2
      exact ⟨_, rfl, fun w => (Int_any _ w (szB_iff.1 h1)).mono fun e' w' h => ⟨h.1, by rw [← h.2]; exact Below.refl _ _⟩⟩
    · cases he

end Go.Proofs.Ytieapjdabffjcaa
