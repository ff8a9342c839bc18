/-
  Ratios as arguments: opened and shut.
-/
import Derived.Test.YtieapjdabffjcaaRatX
import Derived.OpenShut
import Derived.ShutString
import Derived.WalkKit
namespace Go.Proofs.Ytieapjdabffjcaa
open Go.RowKit Nm Go.SX Go.WideShapes

theorem three {α : Type} : ∀ {l : List α}, l.length = 3 → ∃ a b c, l = [a, b, c]
  | [a, b, c], _ => ⟨a, b, c, rfl⟩
  | [], h => by simp at h
  | [_], h => by simp at h
  | [_, _], h => by simp at h
  | _ :: _ :: _ :: _ :: _, h => by simp at h
theorem rt_shape {P : Program} {t tb ts : TypeId} {fs : Array Field} {H : Type} {enc : TypeId × Value → H} {W : World} {base : Nat} {sp : Nat → Bool} {held : Bool} {r : Reach} {b0 : Nat} {v : Value} {d : DataW H} {ps : List MemPlace}
    (ht : P.underlying t = some (.struct fs)) (hb : P.underlying tb = some .bool) (hs : P.underlying ts = some .string) (c3 : P.cellsOf t = 3) (cb : P.cellsOf tb = 1) (cs : P.cellsOf ts = 1)
    (fz : fs.map (fun f => (f.type, f.offset)) = #[(tb, 0), (ts, 1), (ts, 2)])
    (hval : Value.okWide P W r b0 t v) (hd : DataW.Trod enc P W base sp held t v d ps) :
    ∃ x : Rt, v = rtV x ∧ x.n.size ≤ maxLen ∧ x.d.size ≤ maxLen ∧ ps = [] ∧ d = .agg [.lit (.bool x.neg), .lit (.string x.n.data.toList), .lit (.string x.d.data.toList)] := by
  obtain ⟨cells, rfl, hsz⟩ := okWide_struct ht hval
  obtain ⟨fuel, hf⟩ := hd
  obtain ⟨xs, n, rfl, hx, hl, hn, hi⟩ := DataW.trod_struct ht hf
  obtain ⟨fl⟩ := fs
  obtain ⟨f0, f1, f2, rfl⟩ := three (l := fl) (by simpa using congrArg Array.size fz)
  simp only [List.map_toArray, List.map_cons, List.map_nil, Array.mk.injEq, List.cons.injEq, Prod.mk.injEq, and_true] at fz
  obtain ⟨⟨t0, o0⟩, ⟨t1, o1⟩, t2, o2⟩ := fz
  have g0 := hi 0 f0 rfl
  have g1 := hi 1 f1 rfl
  have g2 := hi 2 f2 rfl
  rw [t0, o0, cb] at g0
  rw [t1, o1, cs] at g1
  rw [t2, o2, cs] at g2
  obtain ⟨cl⟩ := cells
  simp only [Value.cells] at hl g0 g1 g2 hf
  rw [c3] at hl
  obtain ⟨a, b, c, rfl⟩ := three hl
  obtain ⟨x0, x1, x2, rfl⟩ := three hn
  simp only [List.drop_zero, List.take_succ_cons, List.take_zero, List.drop_succ_cons, List.getElem?_cons_zero, List.getElem?_cons_succ] at g0 g1 g2
  obtain ⟨n0, e0, y0⟩ := DataW.trod_bool hb g0
  obtain ⟨s1, e1, y1, z1⟩ := DataW.trod_string hs g1
  obtain ⟨s2, e2, y2, z2⟩ := DataW.trod_string hs g2
  cases e0
  cases e1
  cases e2
  subst y0 y1 y2
  simp only [Prod.mk.injEq] at hx
  exact ⟨⟨n0, s1, s2⟩, rfl, z1, z2, hx.2, hx.1⟩
theorem rt_shut {P : Program} {t tb ts : TypeId} {H : Type} {enc : TypeId × Value → H} {W : World} {base : Nat} {sp : Nat → Bool} {held : Bool} {x : Rt} {fs : Array Field}
    (ht : P.underlying t = some (.struct fs)) (hb : P.underlying tb = some .bool) (hs : P.underlying ts = some .string) (c3 : P.cellsOf t = 3) (cb : P.cellsOf tb = 1) (cs : P.cellsOf ts = 1)
    (fz : fs.map (fun f => (f.type, f.offset)) = #[(tb, 0), (ts, 1), (ts, 2)]) (h1 : x.n.size ≤ maxLen) (h2 : x.d.size ≤ maxLen) :
    DataW.Trod enc P W base sp held t (rtV x) (.agg [.lit (.bool x.neg), .lit (.string x.n.data.toList), .lit (.string x.d.data.toList)]) [] := by
  refine ⟨2, ?_⟩
  obtain ⟨fl⟩ := fs
  obtain ⟨f0, f1, f2, rfl⟩ := three (l := fl) (by simpa using congrArg Array.size fz)
  simp only [List.map_toArray, List.map_cons, List.map_nil, Array.mk.injEq, List.cons.injEq, Prod.mk.injEq, and_true] at fz
  obtain ⟨⟨t0, o0⟩, ⟨t1, o1⟩, t2, o2⟩ := fz
  simp [DataW.trod, Value.cells, rtV, ht, hb, hs, c3, cb, cs, t0, t1, t2, o0, o1, o2, h1, h2]

end Go.Proofs.Ytieapjdabffjcaa
