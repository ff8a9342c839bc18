/-
  The walks of the reference for naturals: divide, Div, Gcd.
-/
import Derived.Test.YtlkpphoioocjeaaRefF
namespace Go.Proofs.Ytlkpphoioocjeaa
open Go.RowKit Nm

theorem div_step (P B c : Nat) (hB : 0 < B) : (P * 256 + c) / B = P / B * 256 + (P % B * 256 + c) / B ∧ (P * 256 + c) % B = (P % B * 256 + c) % B := by
  have h := Nat.div_add_mod P B
  have e : P * 256 + c = (P % B * 256 + c) + B * (P / B * 256) := by
    conv => lhs; rw [← h]
    rw [Nat.add_mul, Nat.mul_assoc]
    omega
  rw [e, Nat.add_mul_div_left _ _ hB, Nat.add_mul_mod_self_left]
  exact ⟨by omega, rfl⟩

theorem ext1 (a : ByteArray) (k : Nat) (h : k < a.size) : (a.extract k (k + 1)).data.toList = [a[k]] := by
  rw [ByteArray.data_extract, Array.toList_extract, List.extract_eq_take_drop]
  have := sdata_length a
  rw [show k + 1 - k = 1 by omega, List.drop_eq_getElem_cons (by omega)]
  rfl
theorem cat1 (R : Nat) (a : ByteArray) (k : Nat) (h : k < a.size) : (encS R ++ a.extract k (k + 1)).data.toList = enc R ++ [a[k]] := by
  rw [ByteArray.data_append, Array.toList_append, ext1 a k h]
  rfl
theorem head0 (s : ByteArray) (h : 0 < s.size) (l : List UInt8) (x : UInt8) (e : s.data.toList = x :: l) : s[0] = x := by
  show s.data.toList[0]'_ = x
  simp only [e]
  rfl
theorem cat_pos (R : Nat) (a : ByteArray) (k : Nat) (h : k < a.size) : 0 < (encS R ++ a.extract k (k + 1)).size := by
  rw [← sdata_length, cat1 R a k h]; simp
theorem same_text {s : ByteArray} {n : Nat} (h : s.data.toList = enc n) : s = encS n := by
  show s = ⟨(enc n).toArray⟩
  rw [← h]
theorem cat_z (R : Nat) (a : ByteArray) (k : Nat) (h : k < a.size) (e : Nat) (he : e = (encS R).size + (min (k + 1) a.size - k)) (hz : ((encS R ++ a.extract k (k + 1))[0]'(cat_pos R a k h)).toNat = 0) :
    (encS R ++ a.extract k (k + 1)).extract 1 e = encS (R * 256 + a[k].toNat) := by
  have hc := cat1 R a k h
  by_cases h0 : R = 0
  · subst h0
    have h1 := head0 _ (cat_pos 0 a k h) [] a[k] hc
    rw [h1] at hz
    apply same_text
    rw [hz, ByteArray.data_extract, Array.toList_extract, List.extract_eq_take_drop, hc]
    simp [enc_zero]
  · exfalso
    have hne := enc_ne_nil R (by omega)
    cases hl : enc R with
    | nil => exact hne hl
    | cons x l =>
      rw [hl] at hc
      have h1 := head0 _ (cat_pos R a k h) _ _ hc
      rw [h1] at hz
      have hn := natl_enc R
      rw [hl] at hn
      simp only [natl, bne_iff_ne] at hn
      exact hn (UInt8.toNat_inj.1 hz)
theorem cat_nz (R : Nat) (a : ByteArray) (k : Nat) (h : k < a.size) (hz : ¬ ((encS R ++ a.extract k (k + 1))[0]'(cat_pos R a k h)).toNat = 0) :
    encS R ++ a.extract k (k + 1) = encS (R * 256 + a[k].toNat) := by
  have hc := cat1 R a k h
  apply same_text
  rw [hc, enc_step R _ a[k].toNat_lt, if_neg]
  · simp
  · rintro ⟨rfl, h0⟩
    have h1 := head0 _ (cat_pos 0 a k h) [] a[k] hc
    rw [h1] at hz
    exact hz h0

theorem div_mod_of (t B n : Nat) (h1 : t * B ≤ n) (h2 : n - t * B < B) : t = n / B ∧ n - t * B = n % B := by
  have e : n = (n - t * B) + B * t := by rw [Nat.mul_comm B t]; omega
  have hB : 0 < B := by omega
  constructor
  · conv => rhs; rw [e]
    rw [Nat.add_mul_div_left _ _ hB, Nat.div_eq_of_lt h2, Nat.zero_add]
  · conv => rhs; rw [e]
    rw [Nat.add_mul_mod_self_left, Nat.mod_eq_of_lt h2]

set_option maxHeartbeats 4000000 in
theorem divide_ref (a b : ByteArray) (w : World) (n2 : isN b = true) (s1 : a.size ≤ 256) (s2 : b.size ≤ 256) (hB : 0 < nv b) :
    Calls Try.prog 51 #[.string a, .string b] w fun e w' => e = .returned (.tuple #[.string (encS (nv a / nv b)), .string (encS (nv a % nv b))]) ∧ Below w.heap.size w w' := by
  go_enter Try.func51, Try.ntmps51
  go_wp2_with fail
  go_loopw [6, 7, 8] (fun q r i wr => ∃ k : Nat, k ≤ a.size ∧ i = .int .i64 (k : Int) ∧ r = .string (encS (val (a.data.toList.take k) % nv b)) ∧ OwnB wr w.heap.size q (enc (val (a.data.toList.take k) / nv b)) ∧ Below w.heap.size w wr) (fun _ _ i _ => a.size - (intOf i).toNat)
  case atStart => exact ⟨0, Nat.zero_le _, rfl, by rw [List.take_zero, val_nil, Nat.zero_mod, encS0_eq'], by rw [List.take_zero, val_nil, Nat.zero_div]; exact OwnB.lit0 w, (Below.refl _ _).alloc (Nat.le_refl _) _⟩
  case round =>
    obtain ⟨k, hk, rfl, rfl, hq, hbl⟩ := hrel
    by_cases h0 : k < a.size
    · have hv_ := val_take_succ k h0
      have hc256 := a[k].toNat_lt
      have hvlt : nv b < 256 ^ 256 := by
        have h1 := val_lt b.data.toList
        rw [sdata_length] at h1
        exact Nat.lt_of_lt_of_le h1 (Nat.pow_le_pow_right (by omega) s2)
      have hR0 : val (a.data.toList.take k) % nv b < nv b := Nat.mod_lt _ hB
      have hQl : (enc (val (a.data.toList.take k) / nv b)).length ≤ 256 := by
        rw [enc_length_le]
        refine Nat.lt_of_le_of_lt (Nat.div_le_self _ _) (Nat.lt_of_le_of_lt (val_take_le k) ?_)
        have h1 := val_lt a.data.toList
        rw [sdata_length] at h1
        exact Nat.lt_of_lt_of_le h1 (Nat.pow_le_pow_right (by omega) s1)
      generalize hR : val (a.data.toList.take k) % nv b = R at *
      generalize hQ : val (a.data.toList.take k) / nv b = Q at *
      have HRB := Lib.hid hR
      have HQB := Lib.hid hQ
      have HRL := Lib.hid hR0
      have HQL := Lib.hid hQl
      have hcz := cat_z R a k h0 _ rfl
      have hcn := cat_nz R a k h0
      have hpos := cat_pos R a k h0
      have hsz : (encS R).size ≤ 256 := by
        rw [size_encS, enc_length_le]
        exact Nat.lt_trans hR0 hvlt
      have hpos2 : 0 < (encS R).size + (min (k + 1) a.size - k) := by omega
      have hRc : Hid ((enc (R * 256 + a[k].toNat)).length ≤ 257) := Lib.hid (by
        rw [enc_step R _ hc256]
        rw [size_encS] at hsz
        split
        · simp
        · rw [List.length_append]; simp; omega)
      generalize hc : a[k].toNat = c at *
      have HV := Lib.hid hv_
      have HC := Lib.hid hc256
      clear hR hQ hvlt hR0 hQl hv_ hc hc256
      by_cases hz : ((encS R ++ a.extract k (k + 1))[0]'hpos).toNat = 0
      · have hz' : ((((encS R ++ a.extract k (k + 1))[0]'hpos).toNat : Int) == 0) = true := by
          rw [hz]; rfl
        replace hcz := Lib.hid (hcz hz)
        clear hcn
        have hr : (encS R ++ a.extract k (k + 1)).extract 1 ((encS R).size + (min (k + 1) a.size - k)) = encS (R * 256 + c) := hcz.out
        go_wp2_with fail
        clear hr hz hz'
        obtain ⟨wo, rfl⟩ : ∃ wo, wo = wr := ⟨_, rfl⟩
        go_loopw [7, 9] (fun r d wq => ∃ t : Nat, d = .int .i64 (t : Int) ∧ r = .string (encS (R * 256 + c - t * nv b)) ∧ t * nv b ≤ R * 256 + c ∧ Below wo.heap.size wo wq) (fun _ d _ => R * 256 + c + 1 - (intOf d).toNat)
        case atStart => exact ⟨0, rfl, by rw [Nat.zero_mul]; rfl, by omega, Below.refl _ _⟩
        case round =>
          obtain ⟨t, rfl, rfl, ht, hbq⟩ := hrel
          have htR : t ≤ R * 256 + c := Nat.le_trans (by have := Nat.mul_le_mul_left t hB; omega) ht
          have hm1 := isN_encS (R * 256 + c - t * nv b)
          have hs1 : (encS (R * 256 + c - t * nv b)).size ≤ 257 := by
            rw [size_encS]
            exact Nat.le_trans (enc_len_mono (Nat.sub_le _ _)) hRc.out
          have hl := fun w => less_ref (encS (R * 256 + c - t * nv b)) b w hm1 n2 (by unfold maxLen; omega) (by unfold maxLen; omega)
          rw [nv_encS] at hl
          by_cases hlt : R * 256 + c - t * nv b < nv b
          · rw [decide_eq_true hlt] at hl
            obtain ⟨hd1, hd2⟩ := div_mod_of t (nv b) (R * 256 + c) ht hlt
            have ht256 : t < 256 := by
              rw [hd1]
              rw [Nat.div_lt_iff_lt_mul hB]
              have : R < nv b := HRL.out
              have := HC.out
              omega
            rw [hd2] at hl ⊢
            have HD1 := Lib.hid hd1
            have hbq2 : Below w.heap.size w wr := hbl.trans (hbq.mono hbl.size)
            have hq2 := hq.below hbq
            obtain ⟨ob, cb, hv, hcb, hcbm⟩ := hq2.shp
            rw [List.length_map] at hv hcb
            subst hv
            have hQl := (enc_length_le Q 256)
            have hl2 : ((enc Q).map UInt8.toNat).length + 1 ≤ 4294967296 := by
              rw [List.length_map]
              have := HQL.out
              omega
            have HQE := Lib.hid (enc_step Q t ht256)
            have hP := HV.out
            have hnext := div_step (val (a.data.toList.take k)) (nv b) c hB
            rw [HRB.out, HQB.out, ← hP] at hnext
            have HN := Lib.hid hnext
            have htw : ((UInt8.ofNat t).toNat : Int) = t := by
              have : (UInt8.ofNat t).toNat = t := by simp; omega
              omega
            have HTW := Lib.hid htw
            have HL := Lib.hid hl
            clear hnext hP hd1 hd2 hlt hl hs1 hm1 ht hQl htw hq htR
            by_cases htp : 0 < t
            · skip
              have HQ2 : Hid (enc (Q * 256 + t) = enc Q ++ [UInt8.ofNat t]) := Lib.hid (by rw [HQE.out, if_neg]; rintro ⟨h1, h2⟩; omega)
              go_wp2_with fail
              refine (HL.out _).mono ?_
              rintro e w5 ⟨rfl, n5, rfl⟩
              go_wp2_with (at_builtin; refine append1 (wr.drewN n5) rfl _ _ 45 rfl w.heap.size 5 .u8 1 info_u8 Try.underlying45 _ ((enc Q).map UInt8.toNat) (hq2.drewN n5) rfl _ _ (UInt8.ofNat t).toNat HTW.out.symm rfl hl2 (by omega) hbq2.size ?_)
              intro v' w6 hown' hgrow
              have hbl6 := grown_below (below_drewN hbq2 n5) (hq2.drewN n5) hgrow hbq2.size
              clear hgrow hq2 hbq2
              go_wp2_with fail
              go_roundw
              case rel => exact ⟨k + 1, by omega, by go_num, by rw [HN.out.2], by rw [HN.out.1, ← HD1.out, HQ2.out]; unfold OwnB; simpa using hown', hbl6⟩
              case measure => simp [intOf]; omega
            · obtain rfl : t = 0 := by omega
              by_cases hqp : 0 < (enc Q).length
              · skip
                have HQ2 : Hid (enc (Q * 256 + 0) = enc Q ++ [UInt8.ofNat 0]) := Lib.hid (by rw [HQE.out, if_neg]; rintro ⟨h1, h2⟩; subst h1; simp [enc_zero] at hqp)
                go_wp2_with fail
                refine (HL.out _).mono ?_
                rintro e w5 ⟨rfl, n5, rfl⟩
                go_wp2_with (at_builtin; refine append1 (wr.drewN n5) rfl _ _ 45 rfl w.heap.size 5 .u8 1 info_u8 Try.underlying45 _ ((enc Q).map UInt8.toNat) (hq2.drewN n5) rfl _ _ (UInt8.ofNat 0).toNat HTW.out.symm rfl hl2 (by omega) hbq2.size ?_)
                intro v' w6 hown' hgrow
                have hbl6 := grown_below (below_drewN hbq2 n5) (hq2.drewN n5) hgrow hbq2.size
                clear hgrow hq2 hbq2
                go_wp2_with fail
                go_roundw
                case rel => exact ⟨k + 1, by omega, by go_num, by rw [HN.out.2], by rw [HN.out.1, ← HD1.out, HQ2.out]; unfold OwnB; simpa using hown', hbl6⟩
                case measure => simp [intOf]; omega
              · have hq0 : Q = 0 := by
                  apply Decidable.byContradiction
                  intro h
                  have := List.length_pos_iff.2 (enc_ne_nil Q (by omega))
                  omega
                have HQ0 := Lib.hid hq0
                clear hq0
                go_wp2_with fail
                refine (HL.out _).mono ?_
                rintro e w5 ⟨rfl, n5, rfl⟩
                go_wp2_with fail
                go_roundw
                case rel => exact ⟨k + 1, by omega, by go_num, by rw [HN.out.2], by rw [HN.out.1, ← HD1.out, HQE.out, if_pos ⟨HQ0.out, trivial⟩]; have h := hq2.drewN n5; rw [HQ0.out, enc_zero] at h; rw [HQ0.out] ; exact h, below_drewN hbq2 n5⟩
                case measure => simp [intOf]; omega
          · rw [decide_eq_false hlt] at hl
            have HL := Lib.hid hl
            have ht2 : (t + 1) * nv b ≤ R * 256 + c := by rw [Nat.add_mul]; omega
            have hmin := fun w => minus_any (encS (R * 256 + c - t * nv b)) b w (by omega) (size_le_of hm1 n2 (by rw [nv_encS]; omega)) (by rw [nv_encS]; omega)
            rw [nv_encS, show R * 256 + c - t * nv b - nv b = R * 256 + c - (t + 1) * nv b by rw [Nat.add_mul]; omega] at hmin
            have HM := Lib.hid hmin
            have HT2 := Lib.hid ht2
            have htb : (t : Int) < 9223372036854775800 := by
              have h1 : t < 65536 := by
                have : R < nv b := HRL.out
                have h2 : t * nv b ≤ R * 256 + c := ht
                have h3 : R * 256 + c < 256 * nv b := by have := HC.out; omega
                have h4 : t < 256 := by
                  apply Decidable.byContradiction
                  intro hc
                  have := Nat.mul_le_mul_right (nv b) (show 256 ≤ t by omega)
                  omega
                omega
              omega
            have HTR : Hid (t < R * 256 + c) := Lib.hid (by
              have h1 := Nat.mul_le_mul_left (t + 1) hB
              omega)
            clear hl hlt hmin hs1 hm1 ht ht2 htR
            go_wp2_with fail
            refine (HL.out _).mono ?_
            rintro e w5 ⟨rfl, n5, rfl⟩
            go_wp2_with fail
            refine (HM.out _).mono ?_
            rintro e w6 ⟨rfl, hb6⟩
            go_wp2_with fail
            go_roundw
            case rel => exact ⟨t + 1, by go_num, rfl, HT2.out, hbq.trans ((below_drewN (Below.refl _ _) n5).trans (hb6.mono hbq.size))⟩
            case measure => have := HTR.out; simp [intOf]; omega
      · have hz' : ((((encS R ++ a.extract k (k + 1))[0]'hpos).toNat : Int) == 0) = false := by
          rw [beq_eq_false_iff_ne]; omega
        replace hcn := Lib.hid (hcn hz)
        clear hcz
        go_wp2_with fail
        generalize ((encS R ++ a.extract k (k + 1))[0]'hpos).toNat = z0 at *
        generalize encS R ++ a.extract k (k + 1) = T at *
        obtain rfl := hcn.out
        clear hz hz' hcn
        obtain ⟨wo, rfl⟩ : ∃ wo, wo = wr := ⟨_, rfl⟩
        go_loopw [7, 9] (fun r d wq => ∃ t : Nat, d = .int .i64 (t : Int) ∧ r = .string (encS (R * 256 + c - t * nv b)) ∧ t * nv b ≤ R * 256 + c ∧ Below wo.heap.size wo wq) (fun _ d _ => R * 256 + c + 1 - (intOf d).toNat)
        case atStart => exact ⟨0, rfl, by rw [Nat.zero_mul]; rfl, by omega, Below.refl _ _⟩
        case round =>
          obtain ⟨t, rfl, rfl, ht, hbq⟩ := hrel
          have htR : t ≤ R * 256 + c := Nat.le_trans (by have := Nat.mul_le_mul_left t hB; omega) ht
          have hm1 := isN_encS (R * 256 + c - t * nv b)
          have hs1 : (encS (R * 256 + c - t * nv b)).size ≤ 257 := by
            rw [size_encS]
            exact Nat.le_trans (enc_len_mono (Nat.sub_le _ _)) hRc.out
          have hl := fun w => less_ref (encS (R * 256 + c - t * nv b)) b w hm1 n2 (by unfold maxLen; omega) (by unfold maxLen; omega)
          rw [nv_encS] at hl
          by_cases hlt : R * 256 + c - t * nv b < nv b
          · rw [decide_eq_true hlt] at hl
            obtain ⟨hd1, hd2⟩ := div_mod_of t (nv b) (R * 256 + c) ht hlt
            have ht256 : t < 256 := by
              rw [hd1]
              rw [Nat.div_lt_iff_lt_mul hB]
              have : R < nv b := HRL.out
              have := HC.out
              omega
            rw [hd2] at hl ⊢
            have HD1 := Lib.hid hd1
            have hbq2 : Below w.heap.size w wr := hbl.trans (hbq.mono hbl.size)
            have hq2 := hq.below hbq
            obtain ⟨ob, cb, hv, hcb, hcbm⟩ := hq2.shp
            rw [List.length_map] at hv hcb
            subst hv
            have hQl := (enc_length_le Q 256)
            have hl2 : ((enc Q).map UInt8.toNat).length + 1 ≤ 4294967296 := by
              rw [List.length_map]
              have := HQL.out
              omega
            have HQE := Lib.hid (enc_step Q t ht256)
            have hP := HV.out
            have hnext := div_step (val (a.data.toList.take k)) (nv b) c hB
            rw [HRB.out, HQB.out, ← hP] at hnext
            have HN := Lib.hid hnext
            have htw : ((UInt8.ofNat t).toNat : Int) = t := by
              have : (UInt8.ofNat t).toNat = t := by simp; omega
              omega
            have HTW := Lib.hid htw
            have HL := Lib.hid hl
            clear hnext hP hd1 hd2 hlt hl hs1 hm1 ht hQl htw hq htR
            by_cases htp : 0 < t
            · skip
              have HQ2 : Hid (enc (Q * 256 + t) = enc Q ++ [UInt8.ofNat t]) := Lib.hid (by rw [HQE.out, if_neg]; rintro ⟨h1, h2⟩; omega)
              go_wp2_with fail
              refine (HL.out _).mono ?_
              rintro e w5 ⟨rfl, n5, rfl⟩
              go_wp2_with (at_builtin; refine append1 (wr.drewN n5) rfl _ _ 45 rfl w.heap.size 5 .u8 1 info_u8 Try.underlying45 _ ((enc Q).map UInt8.toNat) (hq2.drewN n5) rfl _ _ (UInt8.ofNat t).toNat HTW.out.symm rfl hl2 (by omega) hbq2.size ?_)
              intro v' w6 hown' hgrow
              have hbl6 := grown_below (below_drewN hbq2 n5) (hq2.drewN n5) hgrow hbq2.size
              clear hgrow hq2 hbq2
              go_wp2_with fail
              go_roundw
              case rel => exact ⟨k + 1, by omega, by go_num, by rw [HN.out.2], by rw [HN.out.1, ← HD1.out, HQ2.out]; unfold OwnB; simpa using hown', hbl6⟩
              case measure => simp [intOf]; omega
            · obtain rfl : t = 0 := by omega
              by_cases hqp : 0 < (enc Q).length
              · skip
                have HQ2 : Hid (enc (Q * 256 + 0) = enc Q ++ [UInt8.ofNat 0]) := Lib.hid (by rw [HQE.out, if_neg]; rintro ⟨h1, h2⟩; subst h1; simp [enc_zero] at hqp)
                go_wp2_with fail
                refine (HL.out _).mono ?_
                rintro e w5 ⟨rfl, n5, rfl⟩
                go_wp2_with (at_builtin; refine append1 (wr.drewN n5) rfl _ _ 45 rfl w.heap.size 5 .u8 1 info_u8 Try.underlying45 _ ((enc Q).map UInt8.toNat) (hq2.drewN n5) rfl _ _ (UInt8.ofNat 0).toNat HTW.out.symm rfl hl2 (by omega) hbq2.size ?_)
                intro v' w6 hown' hgrow
                have hbl6 := grown_below (below_drewN hbq2 n5) (hq2.drewN n5) hgrow hbq2.size
                clear hgrow hq2 hbq2
                go_wp2_with fail
                go_roundw
                case rel => exact ⟨k + 1, by omega, by go_num, by rw [HN.out.2], by rw [HN.out.1, ← HD1.out, HQ2.out]; unfold OwnB; simpa using hown', hbl6⟩
                case measure => simp [intOf]; omega
              · have hq0 : Q = 0 := by
                  apply Decidable.byContradiction
                  intro h
                  have := List.length_pos_iff.2 (enc_ne_nil Q (by omega))
                  omega
                have HQ0 := Lib.hid hq0
                clear hq0
                go_wp2_with fail
                refine (HL.out _).mono ?_
                rintro e w5 ⟨rfl, n5, rfl⟩
                go_wp2_with fail
                go_roundw
                case rel => exact ⟨k + 1, by omega, by go_num, by rw [HN.out.2], by rw [HN.out.1, ← HD1.out, HQE.out, if_pos ⟨HQ0.out, trivial⟩]; have h := hq2.drewN n5; rw [HQ0.out, enc_zero] at h; rw [HQ0.out] ; exact h, below_drewN hbq2 n5⟩
                case measure => simp [intOf]; omega
          · rw [decide_eq_false hlt] at hl
            have HL := Lib.hid hl
            have ht2 : (t + 1) * nv b ≤ R * 256 + c := by rw [Nat.add_mul]; omega
            have hmin := fun w => minus_any (encS (R * 256 + c - t * nv b)) b w (by omega) (size_le_of hm1 n2 (by rw [nv_encS]; omega)) (by rw [nv_encS]; omega)
            rw [nv_encS, show R * 256 + c - t * nv b - nv b = R * 256 + c - (t + 1) * nv b by rw [Nat.add_mul]; omega] at hmin
            have HM := Lib.hid hmin
            have HT2 := Lib.hid ht2
            have htb : (t : Int) < 9223372036854775800 := by
              have h1 : t < 65536 := by
                have : R < nv b := HRL.out
                have h2 : t * nv b ≤ R * 256 + c := ht
                have h3 : R * 256 + c < 256 * nv b := by have := HC.out; omega
                have h4 : t < 256 := by
                  apply Decidable.byContradiction
                  intro hc
                  have := Nat.mul_le_mul_right (nv b) (show 256 ≤ t by omega)
                  omega
                omega
              omega
            have HTR : Hid (t < R * 256 + c) := Lib.hid (by
              have h1 := Nat.mul_le_mul_left (t + 1) hB
              omega)
            clear hl hlt hmin hs1 hm1 ht ht2 htR
            go_wp2_with fail
            refine (HL.out _).mono ?_
            rintro e w5 ⟨rfl, n5, rfl⟩
            go_wp2_with fail
            refine (HM.out _).mono ?_
            rintro e w6 ⟨rfl, hb6⟩
            go_wp2_with fail
            go_roundw
            case rel => exact ⟨t + 1, by go_num, rfl, HT2.out, hbq.trans ((below_drewN (Below.refl _ _) n5).trans (hb6.mono hbq.size))⟩
            case measure => have := HTR.out; simp [intOf]; omega
    · obtain rfl : k = a.size := by omega
      have e1 : val (a.data.toList.take a.size) = nv a := by
        rw [List.take_of_length_le (by rw [sdata_length]; omega)]
        rfl
      rw [e1] at hq ⊢
      have hcv := fun d hd => OwnN.str (P := Try.prog) hq 45 d Try.underlying45 Try.underlying5 hd
      obtain ⟨ob, cb, hv, hcb, hcbm⟩ := hq.shp
      rw [List.length_map] at hv hcb
      subst hv
      clear e1
      go_wp2_with fail
      go_ret2
      exact ⟨rfl, hbl⟩

end Go.Proofs.Ytlkpphoioocjeaa
