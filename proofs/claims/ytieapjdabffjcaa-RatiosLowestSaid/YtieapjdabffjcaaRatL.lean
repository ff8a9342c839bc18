/-
  Package ratios: the table of its inner functions holds.
-/
import Derived.Test.YtieapjdabffjcaaRatT1
namespace Go.Proofs.Ytieapjdabffjcaa
open Go.RowKit Nm Go.SX

theorem eqL (s t : ByteArray) : (s.toList == t.toList) = decide (s = t) := by
  by_cases h : s = t
  · subst h; simp
  · rw [decide_eq_false h, beq_eq_false_iff_ne]
    intro he
    apply h
    rw [sdata, sdata] at he
    obtain ⟨⟨l⟩⟩ := s
    obtain ⟨⟨k⟩⟩ := t
    simp at he
    rw [he]
theorem isE_bs (s : ByteArray) : isE s = decide (s = bs []) := by
  unfold isE
  by_cases h : s = bs []
  · subst h; rfl
  · rw [decide_eq_false h]
    apply decide_eq_false
    intro he
    apply h
    obtain ⟨⟨l⟩⟩ := s
    have : l = [] := List.eq_nil_of_length_eq_zero he
    subst this
    rfl
theorem mustO_some {p : ByteArray × Int} {s : ByteArray} (h : mustO p = some s) : p.1 = s ∧ p.2 = 0 := by
  unfold mustO at h
  split at h
  · rename_i h2
    cases h
    exact ⟨rfl, h2⟩
  · cases h
theorem mustO_none {p : ByteArray × Int} (h : mustO p = none) : (p.2 != 0) = true := by
  unfold mustO at h
  split at h
  · cases h
  · rename_i h2
    simpa using h2
theorem sz256 {s : ByteArray} (h : s.size ≤ 256) : szB s = true := szB_iff.2 (Nat.le_trans h (by unfold maxLen; omega))
theorem short_size (n : Nat) : (shortN n).1.size ≤ 256 := by
  unfold shortN
  split
  · assumption
  · exact Nat.zero_le _
theorem gcdF_size (a b : ByteArray) : (gcdF a b).1.size ≤ 256 := by
  unfold gcdF
  split
  · rename_i h
    obtain ⟨n1, n2, s1, s2⟩ := chk2_zero h
    show (encS _).size ≤ 256
    obtain ⟨ea, sA⟩ := natE n1 s1
    obtain ⟨eb, sB⟩ := natE n2 s2
    rw [size_encS]
    by_cases h0 : 0 < nv a
    · exact (sA.mono (Nat.gcd_le_left _ h0))
    · rw [show nv a = 0 by omega, Nat.gcd_zero_left]
      exact sB
  · exact Nat.zero_le _
theorem subF_size (a b : ByteArray) : (subF a b).1.size ≤ 256 := by
  unfold subF
  split
  · rename_i h
    obtain ⟨n1, n2, s1, s2⟩ := chk2_zero h
    obtain ⟨ea, sA⟩ := natE n1 s1
    split
    · exact Nat.zero_le _
    · show (encS _).size ≤ 256
      rw [size_encS]
      exact sA.mono (Nat.sub_le _ _)
  · exact Nat.zero_le _
theorem mulF_size (a b : ByteArray) : (mulF a b).1.size ≤ 256 := by
  unfold mulF
  split
  · exact short_size _
  · exact Nat.zero_le _
theorem addF_size (a b : ByteArray) : (addF a b).1.size ≤ 256 := by
  unfold addF
  split
  · exact short_size _
  · exact Nat.zero_le _

theorem dne (x : Int) : decide (x ≠ 0) = (x != 0) := by cases h : x != 0 <;> simp_all
theorem check_end (n : Bool) (a b : ByteArray) (ha : szB a = true) (hb : szB b = true) : sxEnd Try.prog Rd.no natCon.p 40 20 [.agg #[.bool n, .string a, .string b]] = some (.returned (.int .i64 (checkR ⟨n, a, b⟩))) := by
  rw [T_check, ha, hb]
  unfold checkR badR
  have e1 : (⟨#[1]⟩ : ByteArray) = bs [1] := rfl
  simp only [eqL, isE_bs, cond_true, Bool.and_self, e1, dne]
  generalize (chkN [a] != 0) = x
  generalize (chkN [b] != 0) = y
  generalize hp : decide (b = bs []) = p
  generalize hq : decide (a = bs []) = q
  by_cases hg : (gcdF a b).1 = bs [1] <;> cases x <;> cases y <;> cases p <;> cases n <;> cases q <;> simp [hg]
theorem times_end (a b : ByteArray) (h : (szB a && szB b) = true) : sxEnd Try.prog Rd.no natCon.p 40 56 [.string a, .string b] = some (endS (timesO a b)) := by
  rw [T_times, h]
  unfold timesO
  cases e : mustO (mulF a b) with
  | some s => obtain ⟨h1, h2⟩ := mustO_some e; simp [h1, h2, endS]
  | none => have := mustO_none e; simp only [this, cond_true]; rfl
theorem plus_end (a b : ByteArray) (h : (szB a && szB b) = true) : sxEnd Try.prog Rd.no natCon.p 40 60 [.string a, .string b] = some (endS (plusO a b)) := by
  rw [T_plus, h]
  unfold plusO
  cases e : mustO (addF a b) with
  | some s => obtain ⟨h1, h2⟩ := mustO_some e; simp [h1, h2, endS]
  | none => have := mustO_none e; simp only [this, cond_true]; rfl
def endG (o : Option Sg) : Ending := match o with | some s => .returned (sgV s) | none => .panicked [{ v := .iface 90 (.agg #[.int .i64 2]), recovered := false }]
def endR (o : Option Rt) : Ending := match o with | some s => .returned (rtV s) | none => .panicked [{ v := .iface 90 (.agg #[.int .i64 2]), recovered := false }]
theorem sadd_end (n m : Bool) (a b : ByteArray) (h : (szB a && szB b) = true) : sxEnd Try.prog Rd.no natCon.p 40 89 [.agg #[.bool n, .string a], .agg #[.bool m, .string b]] = some (endG (saddO ⟨n, a⟩ ⟨m, b⟩)) := by
  have h' : (szB b && szB a) = true := by rw [Bool.and_comm]; exact h
  rw [T_sadd, h, h']
  unfold saddO
  by_cases hnm : n = m
  · subst hnm
    simp only [beq_self_eq_true, cond_true, if_true]
    unfold plusO
    cases e : mustO (addF a b) with
    | some s => obtain ⟨h1, h2⟩ := mustO_some e; simp [h1, h2, endG, sgV]
    | none => have := mustO_none e; simp only [this, cond_true]; rfl
  · have hb : (n == m) = false := by simpa using hnm
    rw [hb]
    simp only [cond_false, cond_true]
    rw [if_neg hnm]
    unfold lessB
    cases hl : decide ((cmpF a b).1 < 0) with
    | true =>
      simp only [cond_true, if_true]
      cases e : mustO (subF b a) with
      | some s => obtain ⟨h1, h2⟩ := mustO_some e; simp [h1, h2, endG, sgV]
      | none => have := mustO_none e; simp only [this, cond_true]; rfl
    | false =>
      simp only [cond_false, Bool.false_eq_true, if_false]
      cases e : mustO (subF a b) with
      | some s => obtain ⟨h1, h2⟩ := mustO_some e; simp [h1, h2, endG, sgV]
      | none => have := mustO_none e; simp only [this, cond_true]; rfl
theorem over_end (n : Bool) (a d : ByteArray) (ha : szB a = true) (hd : szB d = true) : sxEnd Try.prog Rd.no natCon.p 40 36 [.agg #[.bool n, .string a], .string d] = some (endR (overO ⟨n, a⟩ d)) := by
  rw [T_over, ha, hd, sz256 (gcdF_size a d)]
  unfold overO
  simp only [Bool.and_self, cond_true, eqL]
  cases e : mustO (gcdF a d) with
  | none => have := mustO_none e; simp only [this, cond_true]; rfl
  | some g =>
    obtain ⟨h1, h2⟩ := mustO_some e
    simp only [h1, h2, Option.map_some, overR, isE_bs, endR, rtV]
    cases n <;> simp
theorem wrapI {x : Int} (h1 : -9223372036854775808 ≤ x) (h2 : x ≤ 9223372036854775807) : IntKind.i64.wrap x = x := by
  rw [IntKind.wrap_i64]
  omega
theorem size_encS' {n : Nat} : ((encS n).size ≤ 256) = Sm n := by rw [size_encS]; rfl
theorem enc_sm {n : Nat} (h : n ≤ 18446744073709551616) : (encS n).size ≤ 256 := by
  rw [size_encS]
  have h9 : (enc n).length ≤ 9 := (enc_length_le n 9).2 (Nat.lt_of_le_of_lt h (by decide +kernel))
  omega
theorem amount_end (n : Int) (h : inI n = true) : sxEnd Try.prog Rd.no natCon.p 40 35 [.int .i64 n] = some (.returned (.string (encS n.natAbs))) := by
  have h0 := h
  unfold inI at h0
  rw [Bool.and_eq_true, decide_eq_true_eq, decide_eq_true_eq] at h0
  rw [T_amount, h]
  by_cases hn : 0 ≤ n
  · have e : ofF n = (encS n.toNat, 0) := if_neg (by omega)
    have e2 : n.toNat = n.natAbs := by omega
    simp [e, hn, e2]
  · have w1 : IntKind.i64.wrap (n + 1) = n + 1 := wrapI (by omega) (by omega)
    have w2 : IntKind.i64.wrap (-(n + 1)) = -(n + 1) := wrapI (by omega) (by omega)
    have e : ofF (-(n + 1)) = (encS (-(n + 1)).toNat, 0) := if_neg (by omega)
    have hi : inI (-(n + 1)) = true := by unfold inI; rw [Bool.and_eq_true, decide_eq_true_eq, decide_eq_true_eq]; omega
    have hlt : (-(n + 1)).toNat ≤ 18446744073709551616 := by omega
    have hz : (0 : Int) - (n + 1) = -(n + 1) := by omega
    have hs := sz256 (enc_sm hlt)
    have h1 : bs [1] = encS 1 := by decide +kernel
    have hadd : addF (encS (-(n + 1)).toNat) (bs [1]) = (encS n.natAbs, 0) := by
      rw [h1]
      have hc : chkN [encS (-(n + 1)).toNat, encS 1] = 0 := chkE2 (by rw [← size_encS'] ; exact enc_sm hlt) (by rw [← size_encS']; decide +kernel)
      unfold addF
      rw [if_pos hc, nv_encS, nv_encS]
      unfold shortN
      rw [show (-(n + 1)).toNat + 1 = n.natAbs by omega, if_pos (enc_sm (by omega))]
    simp only [w1, hz, w2, e, hi, hs, hadd]
    simp [hn, show szB (bs [1]) = true by decide +kernel]

theorem ratCon_ok : EConOk Try.prog ratCon := by
  have base := natCon_ok
  have pl : ∀ {f : FuncId} {vs : List Value} {e0 : Ending}, sxEnd Try.prog Rd.no natCon.p 40 f vs = some e0 → Plain Try.prog f vs e0 := fun h => plain_sound pOk (ECon.ok natCon_ok) 40 h
  intro f h hf
  unfold ratCon at hf
  split at hf
  · cases hf
    refine ⟨⟨_, Try.func20, rfl⟩, fun vs e he => ?_⟩
    simp only at he
    split at he
    · obtain ⟨h1, h2⟩ := R3.need_some he
      cases h2
      rw [Bool.and_eq_true] at h1
      exact ⟨_, rfl, pl (check_end _ _ _ h1.1 h1.2)⟩
    · cases he
  · cases hf
    refine ⟨⟨_, Try.func56, rfl⟩, fun vs e he => ?_⟩
    simp only at he
    split at he
    · rename_i a b
      obtain ⟨h1, h2⟩ := R3.need_some he
      have h3 := times_end a b h1
      cases ho : timesO a b with
      | some s => rw [ho] at h2 h3; cases h2; exact ⟨_, rfl, pl h3⟩
      | none => rw [ho] at h2 h3; cases h2; exact ⟨_, rfl, pl h3⟩
    · cases he
  · cases hf
    refine ⟨⟨_, Try.func60, rfl⟩, fun vs e he => ?_⟩
    simp only at he
    split at he
    · rename_i a b
      obtain ⟨h1, h2⟩ := R3.need_some he
      have h3 := plus_end a b h1
      cases ho : plusO a b with
      | some s => rw [ho] at h2 h3; cases h2; exact ⟨_, rfl, pl h3⟩
      | none => rw [ho] at h2 h3; cases h2; exact ⟨_, rfl, pl h3⟩
    · cases he
  · cases hf
    refine ⟨⟨_, Try.func89, rfl⟩, fun vs e he => ?_⟩
    simp only at he
    split at he
    · rename_i n a m b
      obtain ⟨h1, h2⟩ := R3.need_some he
      have h3 := sadd_end n m a b h1
      cases ho : saddO ⟨n, a⟩ ⟨m, b⟩ with
      | some s => rw [ho] at h2 h3; cases h2; exact ⟨_, rfl, pl h3⟩
      | none => rw [ho] at h2 h3; cases h2; exact ⟨_, rfl, pl h3⟩
    · cases he
  · cases hf
    refine ⟨⟨_, Try.func36, rfl⟩, fun vs e he => ?_⟩
    simp only at he
    split at he
    · rename_i n a d
      obtain ⟨h1, h2⟩ := R3.need_some he
      rw [Bool.and_eq_true] at h1
      have h3 := over_end n a d h1.1 h1.2
      cases ho : overO ⟨n, a⟩ d with
      | some s => rw [ho] at h2 h3; cases h2; exact ⟨_, rfl, pl h3⟩
      | none => rw [ho] at h2 h3; cases h2; exact ⟨_, rfl, pl h3⟩
    · cases he
  · cases hf
    refine ⟨⟨_, Try.func35, rfl⟩, fun vs e he => ?_⟩
    simp only at he
    split at he
    · obtain ⟨h1, h2⟩ := R3.need_some he
      cases h2
      exact ⟨_, rfl, pl (amount_end _ h1)⟩
    · cases he
  · exact base _ _ hf

end Go.Proofs.Ytieapjdabffjcaa
