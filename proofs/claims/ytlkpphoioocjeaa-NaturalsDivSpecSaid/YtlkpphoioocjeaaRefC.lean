/-
  The walks of the reference for naturals: digits, at, number, carry.
-/
import Derived.Test.YtlkpphoioocjeaaRefB
namespace Go.Proofs.Ytlkpphoioocjeaa
open Go.RowKit Nm

theorem info_i64 : (Try.prog.info? 3).map (fun i => (i.zero, i.size, i.bytes)) = some (some (.int .i64 0), 1, 8) := by kernel_rfl
abbrev OwnZ (w : World) (B : Nat) (v : Value) (xs : List Int) : Prop := OwnI w B 3 .i64 v xs

theorem OwnZ.lit0 (w : World) : OwnZ (w.alloc (.cells #[] 3)) w.heap.size (.slice (some ⟨w.heap.size, 0, none⟩) 0 0) [] := by
  have h := World.ownsRow_lit (base := w.heap.size) (e := 3) (size := 1) w #[] 0 (Nat.le_refl _) (by simp [maxLen]) rfl
  exact h

theorem wrapB (b : UInt8) : wrap64 ((b.toNat : Nat) : Int) = ((b.toNat : Nat) : Int) := by
  have := b.toNat_lt
  unfold wrap64
  omega

set_option maxHeartbeats 1000000 in
theorem digits_any (s : ByteArray) (w : World) (hs : s.size ≤ 4096) :
    Calls Try.prog 43 #[.string s] w fun e w' => ∃ v, e = .returned v ∧ OwnZ w' w.heap.size v (dgi s.data.toList) ∧ Below w.heap.size w w' := by
  go_enter Try.func43, Try.ntmps43
  go_wp2_with fail
  go_loopw [3, 4] (fun l i wr => ∃ k : Nat, k ≤ s.size ∧ i = .int .i64 ((k : Int) - 1) ∧ OwnZ wr w.heap.size l (dgi (s.data.toList.drop k)) ∧ Below w.heap.size w wr) (fun _ i _ => (intOf i + 1).toNat)
  case atStart =>
    refine ⟨s.size, Nat.le_refl _, rfl, ?_, (Below.refl _ _).alloc (Nat.le_refl _) _⟩
    rw [List.drop_of_length_le (by rw [sdata_length]; omega)]
    exact OwnZ.lit0 w
  case round =>
    obtain ⟨k, hk, rfl, hown, hbl⟩ := hrel
    by_cases h0 : 0 < k
    · have hl := length_dgi (s.data.toList.drop k)
      rw [List.length_drop, sdata_length] at hl
      have hd := dgi_drop s.data.toList (k - 1) (by rw [sdata_length]; omega)
      rw [show k - 1 + 1 = k by omega] at hd
      generalize dgi (s.data.toList.drop k) = xs at *
      have HD := Lib.hid hd
      have hl2 : xs.length + 1 ≤ 4294967296 := by omega
      clear hd hl
      obtain ⟨ol, cl, hlv, hcl, hclm⟩ := hown.shp
      subst hlv
      go_wp2_with (at_builtin; refine append1I wr rfl _ _ 52 rfl w.heap.size 3 .i64 8 info_i64 Try.underlying52 _ xs hown rfl _ _ _ (wrapB _) rfl hl2 (by omega) hbl.size ?_)
      intro l' w4 hown' hgrow
      have hbl2 := grown_belowI hbl hown hgrow hbl.size
      clear hgrow hown hbl
      go_wp2_with fail
      go_roundw
      case rel => exact ⟨k - 1, by omega, by rw [show ((k - 1 : Nat) : Int) = (k : Int) - 1 by omega], by rw [HD.out]; exact hown', hbl2⟩
      case measure => simp [intOf]; omega
    · obtain rfl : k = 0 := by omega
      go_wp2_with fail
      go_ret
      exact ⟨_, rfl, hown, hbl⟩

set_option maxHeartbeats 400000 in
theorem at_any (B : Nat) (v : Value) (xs : List Int) (i : Nat) (w : World) (hown : OwnZ w B v xs) (hi : i ≤ 1048576) :
    Calls Try.prog 44 #[v, .int .i64 (i : Int)] w fun e w' => e = .returned (.int .i64 (xs.getD i 0)) ∧ w = w' := by
  obtain ⟨oa, cap, rfl, hc1, hc2⟩ := hown.shp
  by_cases h : i < xs.length
  · obtain ⟨g, rfl, hg1, hg2⟩ := OwnI.at hown (by omega)
    have hc := hown.cell i h
    have e : xs.getD i 0 = xs[i] := by simp [List.getD, h]
    rw [e]
    generalize xs[i] = x at *
    clear e hown
    go_enter Try.func44, Try.ntmps44
    go_wp2_with fail
    go_ret
    exact ⟨rfl, rfl⟩
  · have e : xs.getD i 0 = 0 := by simp [List.getD, List.getElem?_eq_none (by omega : xs.length ≤ i)]
    rw [e]
    clear e hown
    go_enter Try.func44, Try.ntmps44
    go_wp2_with fail
    go_ret
    exact ⟨rfl, rfl⟩

theorem num_step (xs : List Int) (hr : ∀ x ∈ xs, 0 ≤ x ∧ x < 256) (j : Nat) (h0 : 0 < j) (hj : j ≤ xs.length) (x : Int) (hx : xs[j - 1] = x) (hne : x ≠ 0 ∨ 0 < vle (xs.drop j)) :
    enc (vle (xs.drop (j - 1))).toNat = enc (vle (xs.drop j)).toNat ++ [UInt8.ofNat x.toNat] ∧ 0 < vle (xs.drop (j - 1)) := by
  have h1 := vle_drop xs (j - 1) (by omega)
  rw [show j - 1 + 1 = j by omega, hx] at h1
  have h2 := vle_nonneg (xs.drop j) fun y hy => (hr y (List.mem_of_mem_drop hy)).1
  have h3 := hr _ (List.getElem_mem (show j - 1 < xs.length by omega))
  rw [hx] at h3
  rw [h1]
  have e := enc_step (vle (xs.drop j)).toNat x.toNat (by omega)
  rw [if_neg (by omega)] at e
  rw [← e]
  refine ⟨by congr 1; omega, by omega⟩
theorem enc_len_vle (xs : List Int) (hr : ∀ x ∈ xs, 0 ≤ x ∧ x < 256) : (enc (vle xs).toNat).length ≤ xs.length := by
  rw [enc_length_le]
  have h1 := vle_lt xs fun x hx => (hr x hx).2
  have h2 := vle_nonneg xs fun x hx => (hr x hx).1
  have h3 : (256 : Int) ^ xs.length = ((256 ^ xs.length : Nat) : Int) := by rw [Int.natCast_pow]; rfl
  rw [h3] at h1
  omega

theorem OwnB.lit0 (w : World) : OwnB (w.alloc (.cells #[] 5)) w.heap.size (.slice (some ⟨w.heap.size, 0, none⟩) 0 0) [] := by
  have h := World.ownsRow_lit (base := w.heap.size) (e := 5) (size := 1) w #[] 0 (Nat.le_refl _) (by simp [maxLen]) rfl
  exact h
theorem encS0_eq' : encS 0 = ⟨#[]⟩ := by rw [← bE_encS]; rfl

set_option maxHeartbeats 2000000 in
theorem number_any (B : Nat) (v : Value) (xs : List Int) (w : World) (hown : OwnZ w B v xs) (hr : ∀ x ∈ xs, 0 ≤ x ∧ x < 256) (hl : xs.length ≤ 65536) :
    Calls Try.prog 46 #[v] w fun e w' => e = .returned (.string (encS (vle xs).toNat)) ∧ Below w.heap.size w w' := by
  obtain ⟨oa, cap, rfl, hc1, hc2⟩ := hown.shp
  have HO := Lib.hid hown
  have HR := Lib.hid hr
  clear hown hr
  go_enter Try.func46, Try.ntmps46
  go_wp2_with fail
  go_loopw [3] (fun n wr => ∃ k : Nat, k ≤ xs.length ∧ n = .int .i64 (k : Int) ∧ vle (xs.drop k) = 0 ∧ w = wr) (fun n _ => (intOf n).toNat)
  case atStart => exact ⟨xs.length, Nat.le_refl _, rfl, by rw [List.drop_length]; rfl, rfl⟩
  case round =>
    obtain ⟨k, hk, rfl, hz, rfl⟩ := hrel
    have HZ := Lib.hid hz
    clear hz
    by_cases h0 : 0 < k
    · obtain ⟨g, rfl, hg1, hg2⟩ := OwnI.at HO.out (by omega)
      have hc := OwnI.cell HO.out (k - 1) (by omega)
      have hxr := HR.out _ (List.getElem_mem (show k - 1 < xs.length by omega))
      generalize hx : xs[k - 1] = x at hc hxr
      have HX := Lib.hid hx
      clear hx
      obtain ⟨x1, x2⟩ := hxr
      by_cases hx0 : x ≤ 0
      · obtain rfl : x = 0 := by omega
        go_wp2_with fail
        go_roundw
        case rel =>
          refine ⟨k - 1, by omega, by rw [show ((k - 1 : Nat) : Int) = (k : Int) - 1 by omega], ?_, trivial⟩
          have h1 := vle_drop xs (k - 1) (by omega)
          rw [show k - 1 + 1 = k by omega, HX.out, HZ.out] at h1
          exact h1
        case measure => simp [intOf]; omega
      · have hx1 : 0 < x := by omega
        have hx3 : (x == 0) = false := by
          rw [beq_eq_false_iff_ne]
          omega
        clear hx0
        go_wp2_with fail
        go_loopw [4, 5] (fun b i wr => ∃ j : Nat, j ≤ k ∧ i = .int .i64 ((j : Int) - 1) ∧ (j = k ∨ 0 < vle (xs.drop j)) ∧ OwnB wr w.heap.size b (enc (vle (xs.drop j)).toNat) ∧ Below w.heap.size w wr) (fun _ i _ => (intOf i + 1).toNat)
        case atStart =>
          refine ⟨k, Nat.le_refl _, rfl, Or.inl rfl, ?_, (Below.refl _ _).alloc (Nat.le_refl _) _⟩
          rw [HZ.out]
          exact OwnB.lit0 w
        case round =>
          obtain ⟨j, hj, rfl, hor, hb, hbl⟩ := hrel
          by_cases hj0 : 0 < j
          · have hjl : j - 1 < xs.length := by omega
            have hcj := OwnI.cell (OwnI.kept HO.out (row := none) ⟨hbl.os, hbl.tape, hbl.output, hbl.size, fun i hi _ => hbl.block i hi⟩ (by simp [Value.ownBlock])) (j - 1) hjl
            have hyr := HR.out _ (List.getElem_mem hjl)
            have hstep := fun (y : Int) (hy : xs[j - 1] = y) (hy0 : 0 ≤ y) => num_step xs HR.out j hj0 (by omega) y hy (by
              rcases hor with rfl | h
              · left
                have := HX.out
                rw [hy] at this
                omega
              · exact Or.inr h)
            have hlen := Nat.le_trans (enc_len_vle (xs.drop j) fun x hx => HR.out x (List.mem_of_mem_drop hx)) (by rw [List.length_drop]; exact Nat.sub_le _ _)
            generalize hy : xs[j - 1] = y at hcj hyr
            have hst := hstep y hy (by omega)
            have hy2 : ((y.toNat : Nat) : Int) = y := by omega
            obtain ⟨y1, y2⟩ := hyr
            have hyw : ((UInt8.ofNat y.toNat).toNat : Int) = y := by
              have : (UInt8.ofNat y.toNat).toNat = y.toNat := by simp; omega
              omega
            generalize enc (vle (xs.drop j)).toNat = bs at *
            have HST := Lib.hid hst
            have HYW := Lib.hid hyw
            have hl2 : (bs.map UInt8.toNat).length + 1 ≤ 4294967296 := by rw [List.length_map]; omega
            clear hst hyw hy2 hstep hy hor hlen
            obtain ⟨ob, cb, hv, hcb, hcbm⟩ := hb.shp
            rw [List.length_map] at hv hcb
            subst hv
            go_wp2_with (at_builtin; refine append1 wr rfl _ _ 45 rfl w.heap.size 5 .u8 1 info_u8 Try.underlying45 _ (bs.map UInt8.toNat) hb rfl _ _ (UInt8.ofNat y.toNat).toNat HYW.out.symm rfl hl2 (by omega) hbl.size ?_)
            intro v' w1 hown' hgrow
            have hbl1 := grown_below hbl hb hgrow hbl.size
            clear hb hgrow hbl
            go_wp2_with fail
            go_roundw
            case rel => exact ⟨j - 1, by omega, by rw [show ((j - 1 : Nat) : Int) = (j : Int) - 1 by omega], Or.inr HST.out.2, by rw [HST.out.1]; unfold OwnB; simpa using hown', hbl1⟩
            case measure => simp [intOf]; omega
          · obtain rfl : j = 0 := by omega
            rw [List.drop_zero] at hb
            have hcv := fun d hd => OwnN.str (P := Try.prog) hb 45 d Try.underlying45 Try.underlying5 hd
            go_wp2_with fail
            go_ret
            exact ⟨rfl, hbl⟩
    · obtain rfl : k = 0 := by omega
      have e : vle xs = 0 := by have := HZ.out; rw [List.drop_zero] at this; exact this
      have HE := Lib.hid e
      have hb := OwnB.lit0 w
      have hcv := fun d hd => OwnN.str (P := Try.prog) (bs := []) hb 45 d Try.underlying45 Try.underlying5 hd
      clear e
      go_wp2_with fail
      refine wp_loop_rounds 1 ?_
      rw [rounds_succ]
      go_wp2_with fail
      go_ret
      exact ⟨by rw [HE.out, show encS (Int.toNat 0) = ⟨#[]⟩ from encS0_eq']; rfl, (Below.refl _ _).alloc (Nat.le_refl _) _⟩

end Go.Proofs.Ytlkpphoioocjeaa
