/-
  Package ratios: what Add, Sub, Mul, Div, Compare, New, Floor and Ceil come to.
-/
import Derived.Test.YtieapjdabffjcaaRatL
import Derived.Test.YtieapjdabffjcaaRatT2
namespace Go.Proofs.Ytieapjdabffjcaa
set_option linter.unusedSimpArgs false
set_option linter.unusedVariables false
open Go.RowKit Nm Go.SX

def resV (p : Rt × Int) : Value := .tuple #[rtV p.1, .int .i64 p.2]
def intV (p : Int × Int) : Value := .tuple #[.int .i64 p.1, .int .i64 p.2]
def resO (o : Option Rt) : Rt × Int := match o with | some r => (r, 0) | none => (zR, 2)
def both (a b : Rt) (p : Rt × Int) : Rt × Int := if checkR a = 0 then if checkR b = 0 then p else (zR, checkR b) else (zR, checkR a)
def addO (a b : Rt) : Option Rt := (timesO a.d b.d).bind fun d => (timesO a.n b.d).bind fun x => (timesO b.n a.d).bind fun y => (saddO ⟨a.neg, x⟩ ⟨b.neg, y⟩).bind fun s => overO s d
def mulO (a b : Rt) : Option Rt := (timesO a.n b.n).bind fun n => (timesO a.d b.d).bind fun d => overO ⟨a.neg != b.neg, n⟩ d
def negR (b : Rt) : Rt := ⟨!b.neg && !isE b.n, b.n, b.d⟩
def addR (a b : Rt) : Rt × Int := both a b (resO (addO a b))
def subR (a b : Rt) : Rt × Int := both a b (resO (addO a (negR b)))
def mulR (a b : Rt) : Rt × Int := both a b (resO (mulO a b))
def divR (a b : Rt) : Rt × Int := both a b (if isE b.n then (zR, 71) else resO (mulO a ⟨b.neg, b.d, b.n⟩))
def ordS (n m : Bool) (x y : ByteArray) : Int :=
  if n = m ∧ x = y then 0 else if (n ≠ m ∧ n = true) ∨ (n = true ∧ lessB y x = true) ∨ (n = false ∧ m = false ∧ lessB x y = true) then -1 else 1
def cmpR (a b : Rt) : Int × Int :=
  if checkR a = 0 then if checkR b = 0 then
    match timesO a.n b.d, timesO b.n a.d with
    | some x, some y => (ordS a.neg b.neg x y, 0)
    | _, _ => (0, 2)
  else (0, checkR b) else (0, checkR a)
def szR (a : Rt) : Bool := szB a.n && szB a.d

theorem beqB (x y : ByteArray) : (x == y) = decide (x = y) := by
  obtain ⟨a⟩ := x
  obtain ⟨b⟩ := y
  show (a == b) = _
  by_cases h : a = b
  · subst h; simp
  · have : ¬ (ByteArray.mk a = ByteArray.mk b) := fun e => h (ByteArray.mk.inj e)
    rw [decide_eq_false this, beq_eq_false_iff_ne]
    exact h
theorem sz_times {a b x : ByteArray} (h : timesO a b = some x) : szB x = true := by
  obtain ⟨h1, _⟩ := mustO_some h
  rw [← h1]
  exact sz256 (mulF_size a b)
theorem sz_plus {a b x : ByteArray} (h : plusO a b = some x) : szB x = true := by
  obtain ⟨h1, _⟩ := mustO_some h
  rw [← h1]
  exact sz256 (addF_size a b)
theorem sz_sub {a b x : ByteArray} (h : mustO (subF a b) = some x) : szB x = true := by
  obtain ⟨h1, _⟩ := mustO_some h
  rw [← h1]
  exact sz256 (subF_size a b)
theorem sz_sadd {a b s : Sg} (h : saddO a b = some s) : szB s.n = true := by
  unfold saddO at h
  split at h
  · simp only [Option.map_eq_some_iff] at h
    obtain ⟨x, h1, rfl⟩ := h
    exact sz_plus h1
  · split at h
    · simp only [Option.map_eq_some_iff] at h
      obtain ⟨x, h1, rfl⟩ := h
      exact sz_sub h1
    · simp only [Option.map_eq_some_iff] at h
      obtain ⟨x, h1, rfl⟩ := h
      exact sz_sub h1

set_option maxHeartbeats 2000000 in
theorem add_end (n m : Bool) (a b c d : ByteArray) (ha : szB a = true) (hb : szB b = true) (hc : szB c = true) (hd : szB d = true) :
    sxEnd Try.prog Rd.no ratCon.p 40 22 [.agg #[.bool n, .string a, .string b], .agg #[.bool m, .string c, .string d]] = some (.returned (resV (addR ⟨n, a, b⟩ ⟨m, c, d⟩))) := by
  rw [T_add]
  simp only [ha, hb, hc, hd, Bool.and_self, cond_true]
  unfold addR both
  by_cases h1 : checkR ⟨n, a, b⟩ = 0
  · by_cases h2 : checkR ⟨m, c, d⟩ = 0
    · unfold addO
      cases e1 : timesO b d with
      | none => simp [h1, h2, resO, resV, rtV, zR, bs]
      | some x1 =>
        have s1 := sz_times e1
        cases e2 : timesO a d with
        | none => simp [h1, h2, resO, resV, rtV, zR, bs]
        | some x2 =>
          have s2 := sz_times e2
          cases e3 : timesO c b with
          | none => simp [h1, h2, resO, resV, rtV, zR, bs]
          | some x3 =>
            have s3 := sz_times e3
            cases e4 : saddO ⟨n, x2⟩ ⟨m, x3⟩ with
            | none => simp [h1, h2, s2, s3, e4, resO, resV, rtV, zR, bs]
            | some x4 =>
              have s4 := sz_sadd e4
              obtain ⟨q, r⟩ := x4
              simp only at s4
              cases e5 : overO ⟨q, r⟩ x1 with
              | none => simp [h1, h2, s1, s2, s3, s4, e4, e5, resO, resV, rtV, zR, bs]
              | some x5 => simp [h1, h2, s1, s2, s3, s4, e4, e5, resO, resV, rtV]
    · have h2' : (checkR ⟨m, c, d⟩ != 0) = true := by simpa using h2
      simp [h1, h2, h2', resV, rtV, zR, bs]
  · have h1' : (checkR ⟨n, a, b⟩ != 0) = true := by simpa using h1
    simp [h1, h1', resV, rtV, zR, bs]
set_option maxHeartbeats 2000000 in
theorem sub_end (n m : Bool) (a b c d : ByteArray) (ha : szB a = true) (hb : szB b = true) (hc : szB c = true) (hd : szB d = true) :
    sxEnd Try.prog Rd.no ratCon.p 40 24 [.agg #[.bool n, .string a, .string b], .agg #[.bool m, .string c, .string d]] = some (.returned (resV (subR ⟨n, a, b⟩ ⟨m, c, d⟩))) := by
  rw [T_sub]
  simp only [ha, hb, hc, hd, Bool.and_self, cond_true, eqL, ← isE_bs]
  unfold subR both negR
  by_cases h1 : checkR ⟨n, a, b⟩ = 0
  · by_cases h2 : checkR ⟨m, c, d⟩ = 0
    · have key : ∀ q : Bool, (!m && !isE c) = q → _ := fun q hq => hq
      unfold addO
      cases e1 : timesO b d with
      | none => cases m <;> simp [h1, h2, resO, resV, rtV, zR, bs]
      | some x1 =>
        have s1 := sz_times e1
        cases e2 : timesO a d with
        | none => cases m <;> simp [h1, h2, resO, resV, rtV, zR, bs]
        | some x2 =>
          have s2 := sz_times e2
          cases e3 : timesO c b with
          | none => cases m <;> simp [h1, h2, resO, resV, rtV, zR, bs]
          | some x3 =>
            have s3 := sz_times e3
            cases e4 : saddO ⟨n, x2⟩ ⟨!m && !isE c, x3⟩ with
            | none => cases m <;> simp at e4 <;> simp [h1, h2, s2, s3, e4, resO, resV, rtV, zR, bs]
            | some x4 =>
              have s4 := sz_sadd e4
              obtain ⟨q, r⟩ := x4
              simp only at s4
              cases e5 : overO ⟨q, r⟩ x1 with
              | none => cases m <;> simp at e4 <;> simp [h1, h2, s1, s2, s3, s4, e4, e5, resO, resV, rtV, zR, bs]
              | some x5 => cases m <;> simp at e4 <;> simp [h1, h2, s1, s2, s3, s4, e4, e5, resO, resV, rtV]
    · have h2' : (checkR ⟨m, c, d⟩ != 0) = true := by simpa using h2
      simp [h1, h2, h2', resV, rtV, zR, bs]
  · have h1' : (checkR ⟨n, a, b⟩ != 0) = true := by simpa using h1
    simp [h1, h1', resV, rtV, zR, bs]
set_option maxHeartbeats 2000000 in
theorem mul_end (n m : Bool) (a b c d : ByteArray) (ha : szB a = true) (hb : szB b = true) (hc : szB c = true) (hd : szB d = true) :
    sxEnd Try.prog Rd.no ratCon.p 40 26 [.agg #[.bool n, .string a, .string b], .agg #[.bool m, .string c, .string d]] = some (.returned (resV (mulR ⟨n, a, b⟩ ⟨m, c, d⟩))) := by
  rw [T_mul]
  simp only [ha, hb, hc, hd, Bool.and_self, cond_true]
  unfold mulR both
  by_cases h1 : checkR ⟨n, a, b⟩ = 0
  · by_cases h2 : checkR ⟨m, c, d⟩ = 0
    · unfold mulO
      have hne : (n != m) = !(n == m) := rfl
      cases e1 : timesO a c with
      | none => simp [h1, h2, resO, resV, rtV, zR, bs]
      | some x1 =>
        have s1 := sz_times e1
        cases e2 : timesO b d with
        | none => simp [h1, h2, resO, resV, rtV, zR, bs]
        | some x2 =>
          have s2 := sz_times e2
          cases e5 : overO ⟨n != m, x1⟩ x2 with
          | none => simp only [hne] at e5; simp [h1, h2, s1, s2, e5, hne, resO, resV, rtV, zR, bs]
          | some x5 => simp only [hne] at e5; simp [h1, h2, s1, s2, e5, hne, resO, resV, rtV]
    · have h2' : (checkR ⟨m, c, d⟩ != 0) = true := by simpa using h2
      simp [h1, h2, h2', resV, rtV, zR, bs]
  · have h1' : (checkR ⟨n, a, b⟩ != 0) = true := by simpa using h1
    simp [h1, h1', resV, rtV, zR, bs]
set_option maxHeartbeats 2000000 in
theorem div_end (n m : Bool) (a b c d : ByteArray) (ha : szB a = true) (hb : szB b = true) (hc : szB c = true) (hd : szB d = true) :
    sxEnd Try.prog Rd.no ratCon.p 40 28 [.agg #[.bool n, .string a, .string b], .agg #[.bool m, .string c, .string d]] = some (.returned (resV (divR ⟨n, a, b⟩ ⟨m, c, d⟩))) := by
  rw [T_div]
  simp only [ha, hb, hc, hd, Bool.and_self, cond_true, eqL, ← isE_bs]
  unfold divR both
  by_cases h1 : checkR ⟨n, a, b⟩ = 0
  · by_cases h2 : checkR ⟨m, c, d⟩ = 0
    · cases hz : isE c with
      | true => simp [h1, h2, hz, resV, rtV, zR, bs]
      | false =>
        unfold mulO
        have hne : (n != m) = !(n == m) := rfl
        cases e1 : timesO a d with
        | none => simp [h1, h2, hz, resO, resV, rtV, zR, bs]
        | some x1 =>
          have s1 := sz_times e1
          cases e2 : timesO b c with
          | none => simp [h1, h2, hz, resO, resV, rtV, zR, bs]
          | some x2 =>
            have s2 := sz_times e2
            cases e5 : overO ⟨n != m, x1⟩ x2 with
            | none => simp only [hne] at e5; simp [h1, h2, hz, s1, s2, e5, hne, resO, resV, rtV, zR, bs]
            | some x5 => simp only [hne] at e5; simp [h1, h2, hz, s1, s2, e5, hne, resO, resV, rtV]
    · have h2' : (checkR ⟨m, c, d⟩ != 0) = true := by simpa using h2
      simp [h1, h2, h2', resV, rtV, zR, bs]
  · have h1' : (checkR ⟨n, a, b⟩ != 0) = true := by simpa using h1
    simp [h1, h1', resV, rtV, zR, bs]
set_option maxHeartbeats 4000000 in
theorem cmp_end (n m : Bool) (a b c d : ByteArray) (ha : szB a = true) (hb : szB b = true) (hc : szB c = true) (hd : szB d = true) :
    sxEnd Try.prog Rd.no ratCon.p 40 30 [.agg #[.bool n, .string a, .string b], .agg #[.bool m, .string c, .string d]] = some (.returned (intV (cmpR ⟨n, a, b⟩ ⟨m, c, d⟩))) := by
  rw [T_cmp]
  simp only [ha, hb, hc, hd, Bool.and_self, cond_true]
  unfold cmpR
  by_cases h1 : checkR ⟨n, a, b⟩ = 0
  · by_cases h2 : checkR ⟨m, c, d⟩ = 0
    · cases e1 : timesO a d with
      | none => simp [h1, h2, intV]
      | some x =>
        have s1 := sz_times e1
        cases e2 : timesO c b with
        | none => simp [h1, h2, intV]
        | some y =>
          have s2 := sz_times e2
          have l1 : decide ((cmpF x y).1 < 0) = lessB x y := rfl
          have l2 : decide ((cmpF y x).1 < 0) = lessB y x := rfl
          simp only [h1, h2, Option.isSome_some, Option.getD_some, s1, s2, l1, l2, Bool.and_self, cond_true, cond_false, bne_self_eq_false, if_true]
          unfold ordS intV
          by_cases hxy : x = y
          · have hb' : (x == y) = true := by rw [beqB]; exact decide_eq_true hxy
            rw [hb']
            cases n <;> cases m <;> cases lessB x y <;> cases lessB y x <;> simp [hxy]
          · have hb' : (x == y) = false := by rw [beqB]; exact decide_eq_false hxy
            rw [hb']
            cases n <;> cases m <;> cases lessB x y <;> cases lessB y x <;> simp [hxy]
    · have h2' : (checkR ⟨m, c, d⟩ != 0) = true := by simpa using h2
      simp [h1, h2, h2', intV]
  · have h1' : (checkR ⟨n, a, b⟩ != 0) = true := by simpa using h1
    simp [h1, h1', intV]

def floorR (a : Rt) : Int × Int :=
  if checkR a = 0 then
    if (intF (divF a.n a.d).1).2 = false ∨ (intF (divF a.n a.d).1).1 > 4611686018427387904 then (0, 2)
    else if a.neg = false then ((intF (divF a.n a.d).1).1, 0)
    else if (if isE (divF a.n a.d).2.1 then (intF (divF a.n a.d).1).1 else (intF (divF a.n a.d).1).1 + 1) > 4611686018427387904 then (0, 2)
    else (-(if isE (divF a.n a.d).2.1 then (intF (divF a.n a.d).1).1 else (intF (divF a.n a.d).1).1 + 1), 0)
  else (0, checkR a)
def ceilR (a : Rt) : Int × Int := if checkR a = 0 then (-(floorR (negR a)).1, (floorR (negR a)).2) else (0, checkR a)
theorem divF_size (a b : ByteArray) : (divF a b).1.size ≤ 256 := by
  unfold divF
  split
  · rename_i h
    obtain ⟨n1, n2, s1, s2⟩ := chk2_zero h
    obtain ⟨ea, sA⟩ := natE n1 s1
    split
    · exact Nat.zero_le _
    · show (encS _).size ≤ 256
      rw [size_encS]
      exact sA.mono (Nat.div_le_self _ _)
  · exact Nat.zero_le _
theorem intF_range (s : ByteArray) : 0 ≤ (intF s).1 ∧ (intF s).1 < 9223372036854775808 := by
  unfold intF
  split
  · rename_i h
    simp only
    omega
  · simp
theorem floor_end (n : Bool) (a b : ByteArray) (ha : szB a = true) (hb : szB b = true) :
    sxEnd Try.prog Rd.no ratCon.p 40 14 [.agg #[.bool n, .string a, .string b]] = some (.returned (intV (floorR ⟨n, a, b⟩))) := by
  rw [T_floor]
  simp only [ha, hb, sz256 (divF_size a b), Bool.and_self, cond_true, eqL, ← isE_bs]
  unfold floorR intV
  by_cases h1 : checkR ⟨n, a, b⟩ = 0
  · obtain ⟨r1, r2⟩ := intF_range (divF a b).1
    simp only [h1, if_true, bne_self_eq_false, cond_false]
    generalize (intF (divF a b).1).1 = i at *
    generalize (intF (divF a b).1).2 = o at *
    generalize isE (divF a b).2.1 = z
    by_cases hi : i > 4611686018427387904
    · cases o <;> simp [hi]
    · have w1 : IntKind.i64.wrap (i + 1) = i + 1 := wrapI (by omega) (by omega)
      have w2 : IntKind.i64.wrap (0 - (i + 1)) = -(i + 1) := by rw [wrapI (by omega) (by omega)]; omega
      have w3 : IntKind.i64.wrap (0 - i) = -i := by rw [wrapI (by omega) (by omega)]; omega
      rw [w1, w2, w3]
      by_cases hj : i + 1 > 4611686018427387904
      · cases o <;> cases n <;> cases z <;> simp [hi, hj]
      · cases o <;> cases n <;> cases z <;> simp [hi, hj]
  · have h1' : (checkR ⟨n, a, b⟩ != 0) = true := by simpa using h1
    simp [h1, h1']
def newR (n d : Int) : Rt × Int := if d = 0 then (zR, 71) else resO (overO ⟨decide (n < 0) != decide (d < 0), encS n.natAbs⟩ (encS d.natAbs))
theorem over_small {n : Bool} {a d : Nat} (ha : Sm a) (hd : Sm d) : overO ⟨n, encS a⟩ (encS d) = some (overR ⟨n, encS a⟩ (encS d) (encS (Nat.gcd a d))) := by
  unfold overO mustO
  rw [gcdE ha hd]
  rfl
theorem sm_abs {n : Int} (h : inI n = true) : Sm n.natAbs := by
  unfold inI at h
  rw [Bool.and_eq_true, decide_eq_true_eq, decide_eq_true_eq] at h
  have := enc_sm (n := n.natAbs) (by omega)
  rwa [size_encS'] at this
theorem new_end (n d : Int) (hn : inI n = true) (hd : inI d = true) : sxEnd Try.prog Rd.no ratCon.p 40 12 [.int .i64 n, .int .i64 d] = some (.returned (resV (newR n d))) := by
  rw [T_new]
  have sn := sm_abs hn
  have sd := sm_abs hd
  simp only [hn, hd, sz256 sn.size, sz256 sd.size, Bool.and_self, cond_true]
  unfold newR
  have hne : (decide (n < 0) != decide (d < 0)) = !(decide (n < 0) == decide (d < 0)) := rfl
  by_cases h : d = 0
  · simp [h, resV, rtV, zR, bs]
  · have hb : (d == 0) = false := by simpa using h
    rw [hb, if_neg h, hne, over_small sn sd]
    simp [resO, resV, rtV]
/-- the table with Floor -/
def flCon : ECon := fun f =>
  match f with
  | 14 => some fun vs => match vs with
    | [.agg ⟨[.bool n, .string a, .string b]⟩] => .need (szB a && szB b) (.ok (.ret (.tup [.val (.int .i64 (floorR ⟨n, a, b⟩).1), .val (.int .i64 (floorR ⟨n, a, b⟩).2)])))
    | _ => .no
  | f => ratCon f
theorem flCon_ok : EConOk Try.prog flCon := by
  intro f h hf
  unfold flCon at hf
  split at hf
  · cases hf
    refine ⟨⟨_, Try.func14, rfl⟩, fun vs e he => ?_⟩
    simp only at he
    split at he
    · obtain ⟨h1, h2⟩ := R3.need_some he
      cases h2
      rw [Bool.and_eq_true] at h1
      exact ⟨_, rfl, plain_sound pOk (ECon.ok ratCon_ok) 40 (floor_end _ _ _ h1.1 h1.2)⟩
    · cases he
  · exact ratCon_ok _ _ hf

end Go.Proofs.Ytieapjdabffjcaa
