/-
  The examples of the chapter.
-/
import Derived.Test.YtieapjdabffjcaaRatO
namespace Go.Proofs.Ytieapjdabffjcaa
open Go.RowKit Nm Go.SX

def bRt (a b : Rt) : Bool := (a.neg == b.neg) && ((a.n == b.n) && (a.d == b.d))
theorem bRt_eq {a b : Rt} (h : bRt a b = true) : a = b := by
  obtain ⟨n, x, y⟩ := a
  obtain ⟨m, z, u⟩ := b
  unfold bRt at h
  simp only [beqB, Bool.and_eq_true, decide_eq_true_eq, beq_iff_eq] at h
  obtain ⟨h1, h2, h3⟩ := h
  rw [h1, h2, h3]
/-- a result that is one of some is that one -/
def oneR (p : Rt × Int) : List (Rt × Int) → R3 OutE
  | [] => .no
  | c :: l => .br (bRt p.1 c.1 && p.2 == c.2) (retR c) (oneR p l)
theorem oneR_eq {p : Rt × Int} : ∀ {l : List (Rt × Int)} {e : OutE}, (oneR p l).res = some e → (retR p).res = some e
  | [], _, h => by cases h
  | c :: l, e, h => by
    simp only [oneR, R3.res] at h
    cases hb : (bRt p.1 c.1 && p.2 == c.2) with
    | true =>
      rw [hb] at h
      rw [Bool.and_eq_true] at hb
      have h1 := bRt_eq hb.1
      have h2 : p.2 = c.2 := by simpa using hb.2
      have : p = c := Prod.ext h1 h2
      rw [this]
      exact h
    | false =>
      rw [hb] at h
      exact oneR_eq h
def oneI (p : Int × Int) : List (Int × Int) → R3 OutE
  | [] => .no
  | c :: l => .br (p.1 == c.1 && p.2 == c.2) (retI c) (oneI p l)
theorem oneI_eq {p : Int × Int} : ∀ {l : List (Int × Int)} {e : OutE}, (oneI p l).res = some e → (retI p).res = some e
  | [], _, h => by cases h
  | c :: l, e, h => by
    simp only [oneI, R3.res] at h
    cases hb : (p.1 == c.1 && p.2 == c.2) with
    | true =>
      rw [hb] at h
      rw [Bool.and_eq_true] at hb
      have : p = c := Prod.ext (by simpa using hb.1) (by simpa using hb.2)
      rw [this]
      exact h
    | false =>
      rw [hb] at h
      exact oneI_eq h
def saneL : List (Rt × Int) := [(⟨true, bs [2], bs [3]⟩, 0), (⟨false, bs [], bs [1]⟩, 0), (⟨false, bs [], bs []⟩, 71), (⟨false, bs [], bs [1]⟩, 71), (⟨false, bs [4], bs [15]⟩, 0), (⟨true, bs [1], bs [2]⟩, 0), (⟨true, bs [3], bs [4]⟩, 0)]
def saneI : List (Int × Int) := [(-1, 0), (0, 0), (3, 0), (4, 0)]
def filt (e : OutE) : R3 OutE :=
  match e with
  | .ret (.tup [.val (.agg ⟨[.bool a, .string b, .string c]⟩), .val (.int .i64 k)]) => oneR (⟨a, b, c⟩, k) saneL
  | .ret (.tup [.val (.int .i64 a), .val (.int .i64 k)]) => oneI (a, k) saneI
  | e => .ok e
theorem filt_eq {e e' : OutE} (h : (filt e).res = some e') : e' = e := by
  unfold filt at h
  split at h
  · have := oneR_eq h
    cases this
    rfl
  · have := oneI_eq h
    cases this
    rfl
  · cases h
    rfl
def fltCon (g : ECon) : ECon := fun f =>
  match g f with
  | some h => some fun vs => (h vs).bind filt
  | none => none
theorem fltCon_ok {g : ECon} (hg : EConOk Try.prog g) : EConOk Try.prog (fltCon g) := by
  intro f h hf
  unfold fltCon at hf
  split at hf
  · rename_i h0 hh
    cases hf
    obtain ⟨h1, h2⟩ := hg f h0 hh
    refine ⟨h1, fun vs e he => ?_⟩
    obtain ⟨e0, h3, h4⟩ := R3.bind_some _ _ _ he
    rw [filt_eq h4]
    exact h2 vs e0 h3
  · cases hf
def saneCon : ECon := fltCon apiCon
set_option maxRecDepth 100000 in
theorem T_sane : sxEnd Try.prog Rd.no saneCon.p 60 10 [] = some (.returned (.bool true)) := by kernel_rfl
def lawCon : ECon := fun f =>
  match f with
  | 10 => some fun vs => match vs with | [] => .ok (.ret (.val (.bool true))) | _ => .no
  | f => apiCon f
theorem lawCon_ok : EConOk Try.prog lawCon := by
  intro f h hf
  unfold lawCon at hf
  split at hf
  · cases hf
    refine ⟨⟨_, Try.func10, rfl⟩, fun vs e he => ?_⟩
    simp only at he
    split at he
    · cases he
      exact ⟨_, rfl, plain_sound pOk (ECon.ok (fltCon_ok apiCon_ok)) 60 T_sane⟩
    · cases he
  · exact apiCon_ok _ _ hf

end Go.Proofs.Ytieapjdabffjcaa
