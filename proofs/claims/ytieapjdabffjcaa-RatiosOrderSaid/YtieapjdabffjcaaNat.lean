/-
  The walks of package naturals.
-/
import Derived.Test.YtieapjdabffjcaaNm
import Derived.Test.YtieapjdabffjcaaW
namespace Go.Proofs.Ytieapjdabffjcaa
open Go.RowKit Nm

theorem info_u64 : (Try.prog.info? 75).map (fun i => (i.zero, i.size, i.bytes)) = some (some (.int .u64 0), 1, 8) := by kernel_rfl
abbrev OwnU (w : World) (B : Nat) (v : Value) (xs : List Nat) : Prop := OwnN w B 75 .u64 v xs

theorem isN_pos {s : ByteArray} (h : 0 < s.size) : isN s = (((s[0].toNat : Nat) : Int) != 0) := by
  obtain ⟨⟨l⟩⟩ := s
  cases l with
  | nil => simp [ByteArray.size] at h
  | cons b l =>
    show (b != 0) = ((b.toNat : Int) != 0)
    rw [Bool.eq_iff_iff, bne_iff_ne, bne_iff_ne]
    constructor
    · intro h h2; apply h; apply UInt8.toNat_inj.1; simpa using h2
    · intro h h2; subst h2; simp at h
theorem isN_nil {s : ByteArray} (h : ¬ 0 < s.size) : isN s = true := by
  obtain ⟨⟨l⟩⟩ := s
  cases l with
  | nil => rfl
  | cons b l => simp [ByteArray.size] at h

set_option maxHeartbeats 400000 in
theorem natural_any (s : ByteArray) (w : World) :
    Calls Try.prog 66 #[.string s] w fun e w' => e = .returned (.bool (isN s)) ∧ w = w' := by
  by_cases h0 : 0 < s.size
  · have h1 : s.toList.isEmpty = false := isEmpty_false h0
    go_enter Try.func66, Try.ntmps66
    go_wp2
    go_ret
    exact ⟨ret_bool (isN_pos h0).symm, rfl⟩
  · have h1 : s.toList.isEmpty = true := isEmpty_true h0
    go_enter Try.func66, Try.ntmps66
    go_wp2
    go_ret
    exact ⟨ret_bool (isN_nil h0).symm, rfl⟩

theorem words_bits (x c p : Nat) (hx : x < B32) (hc : c < 256) (hp : p % 8 = 0) :
    bits BinOp.or IntKind.u64 (x : Int) (IntKind.u64.wrap (IntKind.u64.wrap (c : Int) * 2 ^ (p % 32))) = ((x ||| (c <<< (p % 32)) : Nat) : Int) := by
  have h1 : p % 32 ≤ 24 := by omega
  have h2 : c <<< (p % 32) < 2 ^ 32 := by
    rw [Nat.shiftLeft_eq]
    have : 2 ^ (p % 32) ≤ 2 ^ 24 := Nat.pow_le_pow_right (by omega) h1
    have := Nat.mul_le_mul (show c ≤ 255 by omega) this
    simp at this ⊢; omega
  rw [wrapU c (by omega)]
  have e : (c : Int) * 2 ^ (p % 32) = ((c <<< (p % 32) : Nat) : Int) := by rw [Nat.shiftLeft_eq]; simp
  rw [e, wrapU _ (by simp at h2; omega), orU _ _ (by unfold B32 at hx; omega) (by simp at h2; omega)]

theorem words_step {w wr : World} {s : ByteArray} {q k x : Nat} {B : Nat} (hk : k < s.size)
    (hx : x = wnum s k / B32 ^ ((s.size - 1 - k) / 4) % B32)
    (hown : OwnU wr B (.slice (some ⟨w.heap.size, 0, none⟩) q q) (dgl q (wnum s k))) (hbl : Below w.heap.size w wr) (n : Int)
    (hn : n = ((x ||| (s[k].toNat <<< (8 * ((s.size - 1 - k) % 4))) : Nat) : Int)) :
    OwnU (wr.setCell ⟨w.heap.size, (s.size - 1 - k) / 4, none⟩ (.int .u64 n)).drew B (.slice (some ⟨w.heap.size, 0, none⟩) q q) (dgl q (wnum s (k + 1))) ∧
    Below w.heap.size w (wr.setCell ⟨w.heap.size, (s.size - 1 - k) / 4, none⟩ (.int .u64 n)).drew := by
  obtain ⟨h1, h2⟩ := OwnN.stored hown ((s.size - 1 - k) / 4) (x ||| (s[k].toNat <<< (8 * ((s.size - 1 - k) % 4))))
  subst hn
  refine ⟨?_, (hbl.setCell (p := ⟨w.heap.size, (s.size - 1 - k) / 4, none⟩) (Nat.le_refl _) _).drew⟩
  have e : dgl q (wnum s (k + 1)) = (dgl q (wnum s k)).set ((s.size - 1 - k) / 4) (x ||| (s[k].toNat <<< (8 * ((s.size - 1 - k) % 4)))) := by
    have h := dgl_or q (wnum s k) s[k].toNat (8 * (s.size - 1 - k)) (by
      have hb := s[k].toNat_lt
      have : 2 ^ 8 ≤ 2 ^ (32 - 8 * (s.size - 1 - k) % 32) := Nat.pow_le_pow_right (by omega) (by omega)
      omega)
    rw [show 8 * (s.size - 1 - k) / 32 = (s.size - 1 - k) / 4 by omega, show 8 * (s.size - 1 - k) % 32 = 8 * ((s.size - 1 - k) % 4) by omega] at h
    rw [wnum_succ s k hk, hx, h]
  rw [e]
  exact h1

set_option maxHeartbeats 400000 in
theorem words_any (s : ByteArray) (w : World) (hs : s.size ≤ 4096) :
    Calls Try.prog 64 #[.string s] w fun e w' => ∃ v, e = .returned v ∧ OwnU w' w.heap.size v (dgl ((s.size + 3) / 4) (nv s)) ∧ Below w.heap.size w w' := by
  obtain ⟨i0, hi, hz0, hz1, hz2⟩ := info_parts info_u64
  go_enter Try.func64, Try.ntmps64
  go_wp2_with (at_make; refine wpList_make_full _ rfl _ _ 69 rfl w.heap.size 75 i0 (.int .u64 0) 1 Try.underlying69 hi hz0 hz1 .i64 .i64 _ _ ((s.size + 3) / 4) rfl rfl ?b1 ?b2 ?b3 ?b4 ?b5 ?_)
  case b1 => omega
  case b2 => omega
  case b3 => rw [hz2]; omega
  case b4 => unfold maxLen; omega
  case b5 => exact Nat.le_refl _
  intro w1 hown hgrow
  have hown1 := OwnN.made hown
  have hb1 := (Below.refl w.heap.size w).grown hgrow (Nat.le_refl _) (by simp)
  clear hown hgrow hi hz0 hz1 hz2
  generalize hq : (s.size + 3) / 4 = q
  have Hq := Lib.hid hq; clear hq
  go_wp2_with fail
  go_loopw [14] (fun i wr => ∃ k : Nat, k ≤ s.size ∧ i = .int .i64 k ∧ OwnU wr w.heap.size (.slice (some ⟨w.heap.size, 0, none⟩) q q) (dgl q (wnum s k)) ∧ Below w.heap.size w wr) (fun i _ => s.size - (intOf i).toNat)
  case atStart => exact ⟨0, Nat.zero_le _, rfl, by rw [wnum_zero, dgl_zero, ← Hq.out]; exact hown1, hb1⟩
  case round =>
    obtain ⟨k, hk, rfl, hown, hbl⟩ := hrel
    clear hown1 hb1
    by_cases hlt : k < s.size
    · have hj : (s.size - 1 - k) / 4 < q := by rw [← Hq.out]; omega
      have hc := OwnN.cell hown ((s.size - 1 - k) / 4) (by rw [dgl_length]; exact hj)
      have hf := OwnN.frozen hown ((s.size - 1 - k) / 4)
      rw [dgl_get q _ _ hj] at hc
      generalize hx : wnum s k / B32 ^ ((s.size - 1 - k) / 4) % B32 = x at hc
      have Hx := Lib.hid hx; clear hx
      go_wp2_with fail
      go_region
      go_wp2_with fail
      go_roundw
      case rel =>
        refine ⟨k + 1, by omega, by go_num, words_step hlt Hx.out.symm hown hbl _ ?_⟩
        have h := words_bits x s[k].toNat (8 * ((s.size - 1 - k) % 4)) (by rw [← Hx.out]; exact Nat.mod_lt _ (by unfold B32; omega)) s[k].toNat_lt (by omega)
        rw [show 8 * ((s.size - 1 - k) % 4) % 32 = 8 * ((s.size - 1 - k) % 4) by omega] at h
        exact h
      case measure => simp [intOf]; omega
    · obtain rfl : k = s.size := by omega
      go_wp2_with fail
      go_ret
      exact ⟨_, rfl, by rw [Hq.out, ← wnum_all]; exact hown, hbl⟩

/-- 'words' of a natural number: its digits. -/
theorem words_nat (s : ByteArray) (w : World) (hs : s.size ≤ 4096) (hn : isN s = true) :
    Calls Try.prog 64 #[.string s] w fun e w' => ∃ v, e = .returned v ∧ OwnU w' w.heap.size v (digs (nv s)) ∧ Below w.heap.size w w' := by
  rw [← words_digs s hn]; exact words_any s w hs


set_option maxHeartbeats 400000 in
theorem check_any (b cap : Nat) (ss : List ByteArray) (w : World) (hl : ss.length ≤ 4096) (hc : ∀ j (h : j < ss.length), w.cell? ⟨b, j, none⟩ = some (.string ss[j])) (hz : ∀ s ∈ ss, s.size ≤ maxLen) :
    Calls Try.prog 62 #[.slice (some ⟨b, 0, none⟩) ss.length cap] w fun e w' => e = .returned (.int .i64 (chkN ss)) ∧ w = w' := by
  unfold maxLen at hz
  have HC := Lib.hid hc; clear hc
  have HZ := Lib.hid hz; clear hz
  go_enter Try.func62, Try.ntmps62
  go_wp2_with fail
  go_loop [9] (fun i => ∃ k : Nat, k ≤ ss.length ∧ i = .int .i64 k ∧ ∀ j (h : j < ss.length), j < k → isN ss[j] = true) (fun i => ss.length - (intOf i).toNat)
  case atStart => exact ⟨0, Nat.zero_le _, rfl, fun j _ h => by omega⟩
  case round =>
    obtain ⟨k, hk, rfl, hall⟩ := hrel
    have HA := Lib.hid hall; clear hall
    by_cases hlt : k < ss.length
    · have hc := HC.out k hlt
      generalize hs : ss[k] = s at hc
      have Hs := Lib.hid hs; clear hs
      by_cases hn : isN s = true
      · have HN := Lib.hid hn; clear hn
        go_wp2_with fail
        refine (natural_any _ _).mono ?_
        rintro e w' ⟨rfl, rfl⟩
        rw [HN.out]
        go_wp2_with fail
        go_round
        case rel =>
          refine ⟨k + 1, by omega, by go_num, fun j h hj => ?_⟩
          by_cases hjk : j = k
          · subst hjk; rw [Hs.out]; exact HN.out
          · exact HA.out j h (by omega)
        case measure => simp [intOf]; omega
      · have HN := Lib.hid hn; clear hn
        go_wp2_with fail
        refine (natural_any _ _).mono ?_
        rintro e w' ⟨rfl, rfl⟩
        rw [Bool.eq_false_iff.2 HN.out]
        go_wp2_with fail
        go_ret
        refine ⟨ret_int ?_, rfl⟩
        rw [chkN, if_neg]
        intro h
        exact HN.out (by rw [← Hs.out]; exact List.all_eq_true.1 h _ (List.getElem_mem _))
    · obtain rfl : k = ss.length := by omega
      have hall : ss.all isN = true := List.all_eq_true.2 fun x hx => by
        obtain ⟨j, h, rfl⟩ := List.mem_iff_getElem.1 hx
        exact HA.out j h h
      have HL := Lib.hid hall; clear hall
      go_wp2_with fail
      go_loop [19] (fun i => ∃ k : Nat, k ≤ ss.length ∧ i = .int .i64 k ∧ ∀ j (h : j < ss.length), j < k → ss[j].size ≤ 256) (fun i => ss.length - (intOf i).toNat)
      case atStart => exact ⟨0, Nat.zero_le _, rfl, fun j _ h => by omega⟩
      case round =>
        obtain ⟨k, hk, rfl, hall⟩ := hrel
        have HB := Lib.hid hall; clear hall
        by_cases hlt2 : k < ss.length
        · have hc := HC.out k hlt2
          have hz := HZ.out ss[k] (List.getElem_mem _)
          generalize hs : ss[k] = s at hc hz
          have Hs := Lib.hid hs; clear hs
          by_cases hn : 256 < s.size
          · go_wp2_with fail
            go_ret
            refine ⟨ret_int ?_, rfl⟩
            rw [chkN, if_pos HL.out, if_neg]
            intro h
            have := List.all_eq_true.1 h ss[k] (List.getElem_mem _)
            rw [Hs.out] at this
            simp at this; omega
          · go_wp2_with fail
            go_round
            case rel =>
              refine ⟨k + 1, by omega, by go_num, fun j h hj => ?_⟩
              by_cases hjk : j = k
              · subst hjk; rw [Hs.out]; omega
              · exact HB.out j h (by omega)
            case measure => simp [intOf]; omega
        · obtain rfl : k = ss.length := by omega
          go_wp2_with fail
          go_ret
          refine ⟨ret_int ?_, rfl⟩
          rw [chkN, if_pos HL.out, if_pos]
          exact List.all_eq_true.2 fun x hx => by
            obtain ⟨j, h, rfl⟩ := List.mem_iff_getElem.1 hx
            simpa using HB.out j h h

set_option maxHeartbeats 400000 in
theorem trim_at (B : Nat) (oa : Option Addr) (cap : Nat) (xs : List Nat) (w : World) (hown : OwnU w B (.slice oa xs.length cap) xs) (hs : small xs) (hl : xs.length ≤ 1048576) :
    Calls Try.prog 87 #[.slice oa xs.length cap] w fun e w' => e = .returned (.slice oa (digs (dv xs)).length cap) ∧ w' = w := by
  obtain ⟨oa', cap', hv, hnone, hsome, hcap, hcm⟩ := hown.shape
  cases hv
  unfold maxLen at hcm
  have HN := Lib.hid hnone; clear hnone
  have HS := Lib.hid hsome; clear hsome
  have HO := Lib.hid hown; clear hown
  go_enter Try.func87, Try.ntmps87
  go_wp2_with fail
  go_loop [0] (fun l => ∃ m : Nat, m ≤ xs.length ∧ l = .slice oa m cap ∧ dv (xs.take m) = dv xs) (fun l => match l with | .slice _ m _ => m | _ => 0)
  case atStart => exact ⟨xs.length, Nat.le_refl _, rfl, by rw [List.take_length]⟩
  case round =>
    obtain ⟨m, hm, rfl, hd⟩ := hrel
    have HD := Lib.hid hd; clear hd
    by_cases h0 : 0 < m
    · obtain ⟨a, rfl⟩ : ∃ a, oa = some a := by
        cases oa with
        | some a => exact ⟨a, rfl⟩
        | none => have h := HN.out rfl; subst h; simp at hm; omega
      obtain ⟨ha, hB, hlt⟩ := HS.out a rfl
      obtain ⟨g, o, sb⟩ := a
      cases ha
      have hc := OwnN.cell HO.out (m - 1) (by omega)
      generalize hx : xs[m - 1] = x at hc
      have Hx := Lib.hid hx; clear hx
      by_cases hz : x = 0
      · have hz1 : ((x : Int) == 0) = true := by simp [hz]
        go_wp2_with fail
        go_round
        case rel => exact ⟨m - 1, by omega, rfl, by
          rw [← HD.out]; have := dv_take_zero xs (m - 1) (by omega) (by rw [Hx.out]; exact hz)
          rw [show m - 1 + 1 = m by omega] at this; exact this.symm⟩
        case measure => show m - 1 < m; omega
      · have hz1 : ((x : Int) == 0) = false := by simp [hz]
        go_wp2_with fail
        go_ret
        have h := congrArg List.length (take_digs xs hs m hm HD.out (fun _ => by rw [Hx.out]; exact hz))
        rw [List.length_take, Nat.min_eq_left hm] at h
        exact ⟨by rw [← h]; rfl, rfl⟩
    · obtain rfl : m = 0 := by omega
      go_wp2_with fail
      go_ret
      have h := congrArg List.length (take_digs xs hs 0 hm HD.out (fun h => by omega))
      rw [List.length_take, Nat.min_eq_left hm] at h
      exact ⟨by rw [← h]; rfl, rfl⟩

/-- what 'trim' hands back -/
theorem OwnN.trimmed {w : World} {B : Nat} {E : TypeId} {k : IntKind} {oa : Option Addr} {n cap : Nat} {xs : List Nat} (h : OwnN w B E k (.slice oa n cap) xs) (hs : small xs) : OwnN w B E k (.slice oa (digs (dv xs)).length cap) (digs (dv xs)) := by
  obtain ⟨h1, h2⟩ := trim_split xs hs
  have h3 := OwnN.cut h (digs (dv xs)).length h2 (fun he => by
    obtain ⟨_, _, hv, hn, _⟩ := h.shape
    cases hv
    rw [hn he] at h2 ⊢
    simpa using h2)
  have e : xs.take (digs (dv xs)).length = digs (dv xs) := by
    generalize digs (dv xs) = ys at *
    rw [h1]; exact List.take_left
  rw [e] at h3
  exact h3

theorem trim_any (B : Nat) (v : Value) (xs : List Nat) (w : World) (hown : OwnU w B v xs) (hs : small xs) (hl : xs.length ≤ 1048576) :
    Calls Try.prog 87 #[v] w fun e w' => w = w' ∧ ∃ v', e = .returned v' ∧ OwnU w B v' (digs (dv xs)) ∧ v'.ownBlock = v.ownBlock := by
  obtain ⟨oa, cap, rfl, _, _⟩ := hown.shp
  refine (trim_at B oa cap xs w hown hs hl).mono ?_
  rintro e w' ⟨rfl, rfl⟩
  exact ⟨rfl, _, rfl, OwnN.trimmed hown hs, by rw [ownBlock_slice, ownBlock_slice]⟩

end Go.Proofs.Ytieapjdabffjcaa
