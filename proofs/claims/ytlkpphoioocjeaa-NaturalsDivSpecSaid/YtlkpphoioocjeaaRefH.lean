/-
  The walks of the reference for naturals: Div, Gcd, Few.
-/
import Derived.Test.YtlkpphoioocjeaaRefG
import Derived.Test.YtlkpphoioocjeaaLaw06
namespace Go.Proofs.Ytlkpphoioocjeaa
open Go.RowKit Nm

set_option maxHeartbeats 1000000 in
theorem rDiv_any (a b : ByteArray) (w : World) :
    Calls Try.prog 28 #[.string a, .string b] w fun e w' => e = .returned (.tuple #[.string (divF a b).1, .string (divF a b).2.1, .int .i64 (divF a b).2.2]) ∧ Below w.heap.size w w' := by
  have h_ := fun w => both_any a b w
  by_cases h : chkN [a, b] = 0
  · obtain ⟨n1, n2, s1, s2⟩ := chk2_zero h
    rw [h] at h_
    have HB := Lib.hid h_
    by_cases h0 : 0 < nv b
    · have E : Hid (divF a b = (encS (nv a / nv b), encS (nv a % nv b), 0)) := Lib.hid (by rw [divF, if_pos h, if_neg (by omega)])
      have HM := Lib.hid (fun w => divide_ref a b w n2 s1 s2 h0)
      have hn : b.toList.isEmpty = false := by
        have := pos_ie h0
        rw [encS_nv b n2] at this
        exact this
      clear h_ h h0
      go_enter Try.func28, Try.ntmps28
      go_wp2_with fail
      refine (HB.out _).mono ?_
      rintro e w1 ⟨rfl, rfl⟩
      go_wp2_with fail
      refine (HM.out _).mono ?_
      rintro e w2 ⟨rfl, hb2⟩
      go_wp2_with fail
      go_ret3
      exact ⟨by rw [E.out]; rfl, hb2⟩
    · have h1 : nv b = 0 := by omega
      have E : Hid (divF a b = (bE, bE, 71)) := Lib.hid (by rw [divF, if_pos h, if_pos h1])
      have hn : b.toList.isEmpty = true := by
        have := encS0_empty
        rw [← h1, encS_nv b n2] at this
        exact this
      clear h_ h h0 h1
      go_enter Try.func28, Try.ntmps28
      go_wp2_with fail
      refine (HB.out _).mono ?_
      rintro e w1 ⟨rfl, rfl⟩
      go_wp2_with fail
      go_ret3
      exact ⟨by rw [E.out]; rfl, Below.refl _ _⟩
  · have E : Hid (divF a b = (bE, bE, chkN [a, b])) := Lib.hid (if_neg h)
    have HB := Lib.hid h_
    have h2 : (chkN [a, b] != 0) = true := by simpa using h
    clear h_ h
    go_enter Try.func28, Try.ntmps28
    go_wp2_with fail
    refine (HB.out _).mono ?_
    rintro e w1 ⟨rfl, rfl⟩
    go_wp2_with fail
    go_ret3
    exact ⟨by rw [E.out]; rfl, Below.refl _ _⟩

/-- the number of a text -/
def numOf : Value → Nat
  | .string s => nv s
  | _ => 0

set_option maxHeartbeats 1000000 in
theorem rGcd_any (a b : ByteArray) (w : World) :
    Calls Try.prog 30 #[.string a, .string b] w fun e w' => e = .returned (.tuple #[.string (gcdF a b).1, .int .i64 (gcdF a b).2]) ∧ Below w.heap.size w w' := by
  have h_ := fun w => both_any a b w
  by_cases h : chkN [a, b] = 0
  · obtain ⟨n1, n2, s1, s2⟩ := chk2_zero h
    rw [h] at h_
    have HB := Lib.hid h_
    have E : Hid (gcdF a b = (encS (Nat.gcd (nv a) (nv b)), 0)) := Lib.hid (if_pos h)
    obtain ⟨ea, sA⟩ := natE n1 s1
    obtain ⟨eb, sB⟩ := natE n2 s2
    have EA := Lib.hid ea
    have EB := Lib.hid eb
    clear h_ h ea eb n1 n2 s1 s2
    go_enter Try.func30, Try.ntmps30
    go_wp2_with fail
    refine (HB.out _).mono ?_
    rintro e w1 ⟨rfl, rfl⟩
    go_wp2_with fail
    go_loopw [0, 1] (fun x y wr => ∃ A B : Nat, x = .string (encS A) ∧ y = .string (encS B) ∧ Sm A ∧ Sm B ∧ Nat.gcd A B = Nat.gcd (nv a) (nv b) ∧ Below w.heap.size w wr) (fun _ y _ => numOf y)
    case atStart => exact ⟨nv a, nv b, by rw [← EA.out], by rw [← EB.out], sA, sB, rfl, Below.refl _ _⟩
    case round =>
      obtain ⟨A, B, rfl, rfl, hA, hB, hg, hbl⟩ := hrel
      have HG := Lib.hid hg
      clear hg
      by_cases h0 : 0 < B
      · have hn := pos_ie h0
        have hd := fun w => divide_ref (encS A) (encS B) w (isN_encS B) hA.size hB.size (by rw [nv_encS]; exact h0)
        simp only [nv_encS] at hd
        have HD := Lib.hid hd
        clear hd
        go_wp2_with fail
        refine (HD.out _).mono ?_
        rintro e w2 ⟨rfl, hb2⟩
        go_wp2_with fail
        go_roundw
        case rel => exact ⟨B, A % B, rfl, rfl, hB, hA.mono (Nat.mod_le _ _), by rw [← HG.out, Nat.gcd_comm B, ← Nat.gcd_rec, Nat.gcd_comm], hbl.trans (hb2.mono hbl.size)⟩
        case measure =>
          show nv (encS (A % B)) < nv (encS B)
          rw [nv_encS, nv_encS]
          exact Nat.mod_lt _ h0
      · obtain rfl : B = 0 := by omega
        have hn := encS0_empty
        go_wp2_with fail
        go_ret2
        exact ⟨by rw [E.out, ← HG.out, Nat.gcd_zero_right]; rfl, hbl⟩
  · have E : Hid (gcdF a b = (bE, chkN [a, b])) := Lib.hid (if_neg h)
    have HB := Lib.hid h_
    have h2 : (chkN [a, b] != 0) = true := by simpa using h
    clear h_ h
    go_enter Try.func30, Try.ntmps30
    go_wp2_with fail
    refine (HB.out _).mono ?_
    rintro e w1 ⟨rfl, rfl⟩
    go_wp2_with fail
    go_ret2
    exact ⟨by rw [E.out]; rfl, Below.refl _ _⟩

end Go.Proofs.Ytlkpphoioocjeaa
