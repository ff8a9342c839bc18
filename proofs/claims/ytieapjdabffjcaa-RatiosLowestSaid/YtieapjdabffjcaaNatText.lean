/-
  The walks of package naturals: text, short.
-/
import Derived.Test.YtieapjdabffjcaaNat
namespace Go.Proofs.Ytieapjdabffjcaa
open Go.RowKit Nm

theorem info_u8 : (Try.prog.info? 5).map (fun i => (i.zero, i.size, i.bytes)) = some (some (.int .u8 0), 1, 1) := by kernel_rfl
abbrev OwnB (w : World) (B : Nat) (v : Value) (bs : List UInt8) : Prop := OwnN w B 5 .u8 v (bs.map UInt8.toNat)

set_option maxHeartbeats 400000 in
theorem text_any (B : Nat) (v : Value) (xs : List Nat) (w : World) (hown : OwnU w B v xs) (hs : small xs) (hl : xs.length ≤ 1048576) :
    Calls Try.prog 65 #[v] w fun e w' => e = .returned (.string (encS (dv xs))) ∧ Below w.heap.size w w' := by
  have HO := Lib.hid hown; clear hown
  go_enter Try.func65, Try.ntmps65
  go_wp2_with fail
  refine (trim_any B v xs w HO.out hs hl).mono ?_
  rintro e w' ⟨rfl, v, rfl, hown, hob⟩
  have hln : (digs (dv xs)).length ≤ 1048576 := by
    have := (trim_split xs hs).2; omega
  generalize hV : dv xs = V at *
  have HV := Lib.hid hV
  clear hob HO hV hs hl
  obtain ⟨oa, cap, rfl, hnone, hsome, hcap, hcm⟩ := hown.shape
  unfold maxLen at hcm
  have HN := Lib.hid hnone; clear hnone
  have HS := Lib.hid hsome; clear hsome
  have HO := Lib.hid hown; clear hown
  go_wp2_with fail
  go_loopw [3, 4] (fun b i wr => ∃ j : Nat, j ≤ (digs V).length ∧ i = .int .i64 ((j : Int) - 1) ∧ OwnB wr w.heap.size b (top V (4 * j)) ∧ Below w.heap.size w wr) (fun _ i _ => (intOf i + 1).toNat)
  case atStart => exact ⟨(digs V).length, Nat.le_refl _, rfl, by
    rw [top_all V _ (by rw [two_256, show 8 * (4 * (digs V).length) = 32 * (digs V).length by omega, ← B32_pow]; exact (digs_length_le _ _).1 (Nat.le_refl _))]; exact OwnN.nil _ _ _ _, Below.refl _ _⟩
  case round =>
    obtain ⟨j, hj, rfl, hb, hbl⟩ := hrel
    by_cases h0 : 0 < j
    · obtain ⟨a, rfl⟩ : ∃ a, oa = some a := by
        cases oa with
        | some a => exact ⟨a, rfl⟩
        | none => have h := HN.out rfl; rw [h] at hj; simp at hj; omega
      obtain ⟨ha, hB, hlt⟩ := HS.out a rfl
      obtain ⟨g, o, sb⟩ := a
      cases ha
      have hlt : g < w.heap.size := hlt
      have hc := OwnN.cell HO.out (j - 1) (by omega)
      rw [digs_get] at hc
      generalize hx : V / B32 ^ (j - 1) % B32 = x at hc
      have hx2 : x < 4294967296 := by rw [← hx]; exact Nat.mod_lt _ (by unfold B32; omega)
      have Hx := Lib.hid hx; clear hx
      have hj1 : decide (1 ≤ (j : Int)) = true := by simp; omega
      have hlen := fun p => Nat.le_trans (top_length V p) (enc_length_digs V)
      have HLen := Lib.hid hlen; clear hlen
      obtain ⟨wo, rfl⟩ : ∃ wo, wo = wr := ⟨_, rfl⟩
      go_wp2_with fail
      go_loopw [3, 5] (fun b i wr => ∃ k : Nat, k ≤ 4 ∧ i = .int .i64 ((k : Int) - 1) ∧ OwnB wr w.heap.size b (top V (4 * (j - 1) + k)) ∧ Below w.heap.size w wr) (fun _ i _ => (intOf i + 1).toNat)
      case atStart => exact ⟨4, by omega, rfl, by rw [show 4 * (j - 1) + 4 = 4 * j by omega]; exact hb, hbl⟩
      case round =>
        clear hb hbl
        obtain ⟨k, hk, rfl, hb, hbl⟩ := hrel
        by_cases h1 : 0 < k
        · have hcw : wr.cell? ⟨g, j - 1, none⟩ = some (.int .u64 (x : Int)) := (hbl.cell (p := ⟨g, j - 1, none⟩) hlt).trans hc
          have htop := top_succ V (4 * (j - 1) + (k - 1))
          rw [show 4 * (j - 1) + (k - 1) + 1 = 4 * (j - 1) + k by omega, ← byte_of V (j - 1) (k - 1) (by omega), Hx.out] at htop
          have hlb := HLen.out (4 * (j - 1) + k)
          generalize top V (4 * (j - 1) + k) = bs at *
          obtain ⟨ob, cb, hv, _, _, hcb, hcbm⟩ := hb.shape
          rw [List.length_map] at hv hcb
          subst hv
          unfold maxLen at hcbm
          have HT := Lib.hid htop; clear htop
          by_cases hd : (x : Int) / 2 ^ (8 * (k - 1)) % 256 = 0
          · have hd2 : x / 2 ^ (8 * (k - 1)) % 256 = 0 := by
              have : ((x / 2 ^ (8 * (k - 1)) % 256 : Nat) : Int) = 0 := by simpa using hd
              omega
            by_cases hz : 0 < bs.length
            · rw [hd2] at HT
              have HT2 : Hid (top V (4 * (j - 1) + (k - 1)) = bs ++ [UInt8.ofNat 0]) := by
                have := HT.out; rw [if_neg (by omega)] at this; exact this
              clear hd2 HT
              go_wp2_with (at_builtin; refine append1 wr rfl _ _ 65 rfl w.heap.size 5 .u8 1 info_u8 Try.underlying65 _ (bs.map UInt8.toNat) hb rfl _ _ 0 rfl rfl (by rw [List.length_map]; omega) (by omega) hbl.size ?_)
              intro v' w1 hown' hgrow
              have hbl1 := grown_below hbl hb hgrow hbl.size
              clear hb hgrow hbl hcw
              go_wp2_with fail
              go_roundw
              case rel => exact ⟨k - 1, by omega, by rw [show ((k - 1 : Nat) : Int) = (k : Int) - 1 by omega], by rw [HT2.out]; unfold OwnB; simpa using hown', hbl1⟩
              case measure => simp [intOf]; omega
            · rw [hd2] at HT
              have HT2 : Hid (top V (4 * (j - 1) + (k - 1)) = []) := by
                have := HT.out; rw [if_pos (by omega)] at this; exact this
              have hbs : bs = [] := List.eq_nil_of_length_eq_zero (by omega)
              have HBS := Lib.hid hbs
              clear hd2 HT hbs
              go_wp2_with fail
              go_roundw
              case rel => exact ⟨k - 1, by omega, by rw [show ((k - 1 : Nat) : Int) = (k : Int) - 1 by omega], by rw [HT2.out, ← HBS.out]; exact hb, hbl⟩
              case measure => simp [intOf]; omega
          · have hd2 : ((x / 2 ^ (8 * (k - 1)) % 256 : Nat) : Int) = (x : Int) / 2 ^ (8 * (k - 1)) % 256 := by simp
            have hd3 : x / 2 ^ (8 * (k - 1)) % 256 ≠ 0 := fun h => hd (by rw [← hd2, h]; rfl)
            have HT2 : Hid (top V (4 * (j - 1) + (k - 1)) = bs ++ [UInt8.ofNat (x / 2 ^ (8 * (k - 1)) % 256)]) := by
              have := HT.out; rw [if_neg (by omega)] at this; exact this
            have HD := Lib.hid hd2
            clear hd2 HT hd3
            go_wp2_with (at_builtin; refine append1 wr rfl _ _ 65 rfl w.heap.size 5 .u8 1 info_u8 Try.underlying65 _ (bs.map UInt8.toNat) hb rfl _ _ (x / 2 ^ (8 * (k - 1)) % 256) HD.out.symm rfl (by rw [List.length_map]; omega) (by omega) hbl.size ?_)
            intro v' w1 hown' hgrow
            have hbl1 := grown_below hbl hb hgrow hbl.size
            clear hb hgrow hbl hcw
            go_wp2_with fail
            go_roundw
            case rel => exact ⟨k - 1, by omega, by rw [show ((k - 1 : Nat) : Int) = (k : Int) - 1 by omega], by rw [HT2.out]; unfold OwnB; simpa using hown', hbl1⟩
            case measure => simp [intOf]; omega
        · obtain rfl : k = 0 := by omega
          go_wp2_with fail
          go_roundw
          case rel => exact ⟨j - 1, by omega, by rw [show ((j - 1 : Nat) : Int) = (j : Int) - 1 by omega], hb, hbl⟩
          case measure => simp [intOf]; omega
    · obtain rfl : j = 0 := by omega
      rw [top_zero] at hb
      have hcv := fun d hd => OwnN.str (P := Try.prog) hb 65 d Try.underlying65 Try.underlying5 hd
      go_wp2_with fail
      go_ret
      exact ⟨ret_string (by rw [HV.out]; rfl), hbl⟩

set_option maxHeartbeats 400000 in
theorem short_any (B : Nat) (v : Value) (xs : List Nat) (w : World) (hown : OwnU w B v xs) (hs : small xs) (hl : xs.length ≤ 1048576) :
    Calls Try.prog 93 #[v] w fun e w' => e = .returned (.tuple #[.string (shortN (dv xs)).1, .int .i64 (shortN (dv xs)).2]) ∧ Below w.heap.size w w' := by
  have HO := Lib.hid hown; clear hown
  have hln : (digs (dv xs)).length ≤ 1048576 := by
    have := (trim_split xs hs).2; omega
  have hsz : (encS (dv xs)).size ≤ 4194304 := by
    have := enc_length_digs (dv xs)
    rw [size_encS]; omega
  go_enter Try.func93, Try.ntmps93
  go_wp2_with fail
  refine (text_any B v xs w HO.out hs hl).mono ?_
  rintro e w1 ⟨rfl, hbl⟩
  by_cases h : (encS (dv xs)).size ≤ 256
  · have E : Hid (shortN (dv xs) = (encS (dv xs), 0)) := if_pos h
    go_wp2_with fail
    go_ret2
    exact ⟨by rw [E.out]; rfl, hbl⟩
  · have E : Hid (shortN (dv xs) = (⟨#[]⟩, 2)) := if_neg h
    go_wp2_with fail
    go_ret2
    exact ⟨by rw [E.out]; rfl, hbl⟩

end Go.Proofs.Ytieapjdabffjcaa
