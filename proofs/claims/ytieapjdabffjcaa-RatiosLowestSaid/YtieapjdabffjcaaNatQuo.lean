/-
  The walks of package naturals: divide.
-/
import Derived.Test.YtieapjdabffjcaaNatDiv
import Derived.Test.YtieapjdabffjcaaRound
namespace Go.Proofs.Ytieapjdabffjcaa
open Go.RowKit Nm
attribute [local go_sem] Oper.semAt_some

theorem makeIn {F : Fence} {n : Nat} {P : Program} (w : World) {ops : Array Oper} {rest : List Oper} {o : Oper} {a : Act} {Q : Exit → Act → World → Prop}
    (hg : o.guard = none) (l c : Operand) (t : TypeId) (hop : o.op = Op.makeSlice t l c)
    (base : Nat) (e : TypeId) (k : IntKind) (bytes : Nat) (hinfo : (P.info? e).map (fun i => (i.zero, i.size, i.bytes)) = some (some (.int k 0), 1, bytes)) (h1 : P.underlying t = some (.slice e))
    (kl kc : IntKind) (L C : Int) (m : Nat) (hl : a.eval l = .int kl L) (hc : a.eval c = .int kc C) (hL : L = (m : Int)) (hC : C = (m : Int)) (b2 : bytes * m ≤ 281474976710656) (b3 : m ≤ maxLen) (b4 : base ≤ w.heap.size)
    (hK : ∀ w', OwnN w' base e k (.slice (some ⟨w.heap.size, 0, none⟩) m m) (List.replicate m 0) → w.grownBy w' none → wpListIn F n P ops Q rest (a.put o.dst (.slice (some ⟨w.heap.size, 0, none⟩) m m)) w') :
    wpListIn F n P ops Q (o :: rest) a w := by
  obtain ⟨i, hi, h0, h2, h3⟩ := info_parts hinfo
  refine wpListIn_plain hg fun K hK' => ?_
  obtain ⟨w', hrun, r1, r2⟩ := run_make_full (P := P) w base t e i (.int k 0) 1 h1 hi h0 h2 kl kc m (by rw [h3]; exact b2) b3 b4
  subst hL
  subst hC
  unfold Oper.wpIn
  refine ⟨?_, ?_⟩
  · simp [Oper.about, hop]
  · rw [Oper.semAt_plain F _ _ (by rw [hop]; intro c hc'; cases hc')]
    simp [execOp, hop, hl, hc, hrun, Result.andThen]
    exact hK' _ _ (hK w' (OwnN.made (by rw [Nat.mul_one] at r1; exact r1)) r2)

/-- a block of one cell -/
def Box (W : World) (b : Nat) (t : TypeId) (v : Value) : Prop := W.heap[b]? = some (.cells #[v] t (0, 0))
theorem Box.cell {W : World} {b : Nat} {t : TypeId} {v : Value} (h : Box W b t v) : W.cell? ⟨b, 0, none⟩ = some v := cell_of_one h
theorem Box.free {W : World} {b : Nat} {t : TypeId} {v : Value} (h : Box W b t v) : W.frozen? ⟨b, 0, none⟩ = false := free_of_one h
theorem Box.lt {W : World} {b : Nat} {t : TypeId} {v : Value} (h : Box W b t v) : b < W.heap.size := lt_of_block h
theorem Box.set {W : World} {b : Nat} {t : TypeId} {v : Value} (h : Box W b t v) (u : Value) : Box (W.setCell ⟨b, 0, none⟩ u) b t u := one_setCell h
theorem Box.other {W : World} {b : Nat} {t : TypeId} {v : Value} (h : Box W b t v) (a : Addr) (ha : b ≠ a.block) (u : Value) : Box (W.setCell a u) b t v := (Below.heap_setCell W a u b ha).trans h
theorem Box.grown {W W' : World} {b : Nat} {t : TypeId} {v : Value} {row : Option Nat} (h : Box W b t v) (hg : W.grownBy W' row) (hr : some b ≠ row) : Box W' b t v := (hg.block b h.lt hr).trans h
theorem Box.alloc {W : World} {b : Nat} {t : TypeId} {v : Value} (h : Box W b t v) (o : Obj) : Box (W.alloc o) b t v := (Below.heap_alloc W o b h.lt).trans h
theorem Box.drewN {W : World} {b : Nat} {t : TypeId} {v : Value} (h : Box W b t v) (k : Nat) : Box (W.drewN k) b t v := h
theorem Box.new (W : World) (t : TypeId) (v : Value) : Box (W.alloc (.cells #[v] t)) W.heap.size t v := World.alloc_heap_new W _
theorem Box.below {W W' : World} {b : Nat} {t : TypeId} {v : Value} {B : Nat} (h : Box W b t v) (hb : Below B W W') (hB : b < B) : Box W' b t v := (hb.block b hB).trans h

/-- what is owned abides the turn of a block that holds no cells -/
theorem OwnN.cells {W W' : World} {B : Nat} {E : TypeId} {k : IntKind} {v : Value} {xs : List Nat} {row : Option Nat} (h : OwnN W B E k v xs) (hg : W.grownBy W' row) (hr : ∀ r, row = some r → ∃ o : Obj, W.heap[r]? = some o ∧ o.isCells = false) : OwnN W' B E k v xs := by
  refine h.kept hg ?_
  by_cases hne : v.ownBlock = row
  · cases hv : v.ownBlock with
    | none => exact Or.inl rfl
    | some g =>
      exfalso
      obtain ⟨o, ho, hc⟩ := hr g (by rw [← hne, hv])
      rcases h.2 with ⟨rfl, _⟩ | ⟨g', cap, cur, rfl, _, hg', _⟩
      · simp [Value.ownBlock] at hv
      · simp [Value.ownBlock] at hv
        subst hv
        rw [hg'] at ho; cases ho; simp [Obj.isCells] at hc
  · exact Or.inr hne
theorem Box.cells {W W' : World} {b : Nat} {t : TypeId} {v : Value} {row : Option Nat} (h : Box W b t v) (hg : W.grownBy W' row) (hr : ∀ r, row = some r → ∃ o : Obj, W.heap[r]? = some o ∧ o.isCells = false) : Box W' b t v := by
  refine h.grown hg fun e => ?_
  obtain ⟨o, ho, hc⟩ := hr b e.symm
  unfold Box at h
  rw [h] at ho; cases ho; simp [Obj.isCells] at hc

/-- between two rounds of 'divide' -/
def divI (w : World) (S : Nat) (n m cap' : Nat) (ob : Option Addr) (pre : List (BitAt (32 * (digs n).length))) (W : World) : Prop :=
  (∃ rv, Box W w.heap.size 69 (.slice ob (digs m).length cap') ∧ Box W (w.heap.size + 1) 69 (.slice (some ⟨w.heap.size + 3, 0, none⟩) (digs n).length (digs n).length) ∧ Box W (w.heap.size + 2) 69 rv ∧
    OwnU W (w.heap.size + 3) (.slice (some ⟨w.heap.size + 3, 0, none⟩) (digs n).length (digs n).length) (dgl (digs n).length (divSt m pre).1) ∧ OwnU W S rv (digs (divSt m pre).2) ∧ S ≤ W.heap.size) ∧ Below w.heap.size w W

/-- what a round of 'divide' keeps -/
structure divK (H S : Nat) (W W' : World) : Prop where
  size : W.heap.size ≤ W'.heap.size
  same : ∀ (k : Nat) (o : Obj), W.heap[k]? = some o → o.isCells = false → W'.heap[k]? = some o
  low : ∀ k, k < S → k ≠ H + 2 → k ≠ H + 3 → W'.heap[k]? = W.heap[k]?
theorem divK.trans {H S : Nat} {A B C : World} (h : divK H S A B) (k : divK H S B C) : divK H S A C :=
  ⟨Nat.le_trans h.size k.size, fun i o hi ho => k.same i o (h.same i o hi ho) ho, fun i h1 h2 h3 => (k.low i h1 h2 h3).trans (h.low i h1 h2 h3)⟩
theorem divK.grown {H S : Nat} {W W' : World} {E : TypeId} {k : IntKind} {v : Value} {xs : List Nat} (hS : S ≤ W.heap.size) (hg : W.grownBy W' v.ownBlock) (h : OwnN W S E k v xs) : divK H S W W' := by
  have hc : ∀ (j : Nat) (o : Obj), v.ownBlock = some j → W.heap[j]? = some o → o.isCells = true := fun j o e ho => by
    rcases h.2 with ⟨rfl, _⟩ | ⟨g', cap, cur, rfl, _, hg', _⟩
    · simp [Value.ownBlock] at e
    · simp [Value.ownBlock] at e
      subst e
      rw [hg'] at ho; cases ho; rfl
  have hk := KeepsOthers.of_grownBy hg hc
  exact ⟨hk.size, hk.same, fun i h1 _ _ => hg.block i (by omega) (fun e => by have := (h.lt i e.symm).1; omega)⟩
theorem divK.set {H S : Nat} (W : World) (b j : Nat) (u : Value) (hb : b = H + 2 ∨ b = H + 3) : divK H S W (W.setCell ⟨b, j, none⟩ u) :=
  have hk := KeepsOthers.setCell W ⟨b, j, none⟩ u
  ⟨hk.size, hk.same, fun i _ h2 h3 => Below.heap_setCell _ _ _ _ (by show i ≠ b; omega)⟩
theorem divK.drewN {H S : Nat} {W W' : World} (h : divK H S W W') (k : Nat) : divK H S W (W'.drewN k) := ⟨h.size, h.same, h.low⟩

set_option maxRecDepth 100000 in
set_option maxHeartbeats 1000000 in
theorem divide_any (B B' : Nat) (v u : Value) (n m : Nat) (w : World) (hv : OwnU w B v (digs n)) (hu : OwnU w B' u (digs m)) (hm : 0 < m) (hln : (digs n).length ≤ 4096) (hlm : (digs m).length ≤ 4096) :
    Calls Try.prog 63 #[v, u] w fun e w' => ∃ v1 v2, e = .returned (.tuple #[v1, v2]) ∧ OwnU w' w.heap.size v1 (digs (n / m)) ∧ OwnU w' w.heap.size v2 (digs (n % m)) ∧ Below w.heap.size w w' := by
  obtain ⟨oa, cap, rfl, hcap, hcm⟩ := hv.shp
  obtain ⟨ob, cap', rfl, hcap', hcm'⟩ := hu.shp
  have HO := Lib.hid hv; clear hv
  have HU := Lib.hid hu; clear hu
  obtain ⟨i0, hi, hz0, hz1, hz2⟩ := info_parts info_u64
  refine (callsIn_wide (n := 3)).1 ?_
  refine callsIn_of_wp_marks Try.func63 rfl trivial ?_ rfl
  simp only [Try.ntmps63, List.size_toArray, List.length_cons, List.length_nil, Nat.reduceAdd, Nat.reduceSub, Array.replicate_succ, Array.replicate_zero, List.push_toArray, List.append_toArray, List.nil_append, List.cons_append]
  gi_wp2_with (gi_at_make; refine makeIn _ rfl _ _ 69 rfl (w.heap.size + 3) 75 .u64 8 info_u64 Try.underlying69 .i64 .i64 _ _ (digs n).length rfl rfl rfl rfl (by omega) (by unfold maxLen; omega) (by simp) ?_)
  intro w1 hown hgrow
  have b0 := (((Box.new w 69 (.slice ob (digs m).length cap')).alloc (.cells #[.slice none 0 0] 69)).alloc (.cells #[.slice none 0 0] 69)).grown hgrow (by simp)
  have b1 := ((Box.new (w.alloc (.cells #[.slice ob (digs m).length cap'] 69)) 69 (.slice none 0 0)).alloc (.cells #[.slice none 0 0] 69)).grown hgrow (by simp)
  have b2 := (Box.new ((w.alloc (.cells #[.slice ob (digs m).length cap'] 69)).alloc (.cells #[.slice none 0 0] 69)) 69 (.slice none 0 0)).grown hgrow (by simp)
  simp only [World.size_alloc] at b1 b2
  have hbw : Below w.heap.size w w1 := ((((Below.refl _ w).alloc (Nat.le_refl _) _).alloc (by simp) _).alloc (by simp; omega) _).grown hgrow (by simp; omega) (by simp)
  have hsz : w.heap.size + 3 < w1.heap.size := by
    have := (hown.lt _ rfl).2
    omega
  have HW := Lib.hid hown
  have B0 := Lib.hid b0
  have B1 := Lib.hid b1
  have B2 := Lib.hid b2
  have BW := Lib.hid hbw
  have c1 := b1.cell
  have f1 := b1.free
  clear hgrow hown b0 b1 b2 hbw
  gi_wp2_with fail
  refine ⟨trivial, (callsIn_wide.2 (bits_any _ _ _ _)).mono ?_⟩
  rintro e w' ⟨rfl, rfl⟩
  clear c1 f1
  have B0' := (B0.out.other ⟨w.heap.size + 1, 0, none⟩ (by simp) (.slice (some ⟨w.heap.size + 1 + 1 + 1, 0, none⟩) (digs n).length (digs n).length)).alloc (.cells #[.slice oa (digs n).length cap] 69)
  have B1' := (B1.out.set (.slice (some ⟨w.heap.size + 1 + 1 + 1, 0, none⟩) (digs n).length (digs n).length)).alloc (.cells #[.slice oa (digs n).length cap] 69)
  have B2' := (B2.out.other ⟨w.heap.size + 1, 0, none⟩ (by simp) (.slice (some ⟨w.heap.size + 1 + 1 + 1, 0, none⟩) (digs n).length (digs n).length)).alloc (.cells #[.slice oa (digs n).length cap] 69)
  have B4' := Box.new (w1.setCell ⟨w.heap.size + 1, 0, none⟩ (.slice (some ⟨w.heap.size + 1 + 1 + 1, 0, none⟩) (digs n).length (digs n).length)) 69 (.slice oa (digs n).length cap)
  have HW' := ((HW.out.kept (grownBy_set (World.grownBy.refl w1 (some (w.heap.size + 1))) 0 (.slice (some ⟨w.heap.size + 1 + 1 + 1, 0, none⟩) (digs n).length (digs n).length)) (Or.inr (fun h => by have : w.heap.size + 1 + 1 + 1 = w.heap.size + 1 := Option.some.inj h; omega))).alloc (.cells #[.slice oa (digs n).length cap] 69))
  have BW' := (BW.out.setCell (p := ⟨w.heap.size + 1, 0, none⟩) (by show w.heap.size ≤ w.heap.size + 1; omega) (.slice (some ⟨w.heap.size + 1 + 1 + 1, 0, none⟩) (digs n).length (digs n).length)).alloc (by have := BW.out.size; rw [World.size_setCell]; omega) (.cells #[.slice oa (digs n).length cap] 69)
  rw [World.size_setCell] at B4'
  have hsz0 : ((w1.setCell ⟨w.heap.size + 1, 0, none⟩ (.slice (some ⟨w.heap.size + 1 + 1 + 1, 0, none⟩) (digs n).length (digs n).length)).alloc (.cells #[.slice oa (digs n).length cap] 69)).heap.size = w1.heap.size + 1 := by simp
  rw [World.size_setCell]
  generalize hW0 : (w1.setCell ⟨w.heap.size + 1, 0, none⟩ (.slice (some ⟨w.heap.size + 1 + 1 + 1, 0, none⟩) (digs n).length (digs n).length)).alloc (.cells #[.slice oa (digs n).length cap] 69) = W0 at *
  clear hW0 HW B0 B1 B2 BW
  obtain ⟨ga, hga, hg2, hg3, hgS⟩ : ∃ ga, (∀ g, oa = some ⟨g, 0, none⟩ → g = ga) ∧ ga ≠ w.heap.size + 2 ∧ ga ≠ w.heap.size + 3 ∧ ga < w1.heap.size + 1 := by
    by_cases h0 : 0 < (digs n).length
    · obtain ⟨g, rfl, _, hlt⟩ := OwnN.at HO.out h0
      exact ⟨g, (fun g' h => by cases h; rfl), by omega, by omega, by omega⟩
    · cases oa with
      | none => exact ⟨w1.heap.size, (fun g h => by cases h), by omega, by omega, by omega⟩
      | some a =>
        obtain ⟨_, _, hv, _, h2, _⟩ := HO.out.shape
        cases hv
        obtain ⟨_, _, hlt⟩ := h2 a rfl
        exact ⟨a.block, (fun g h => by cases h; rfl), by omega, by omega, by omega⟩
  have HB0 := Lib.hid B0'
  have HB1 := Lib.hid B1'
  have HB2 := Lib.hid B2'
  have HB4 := Lib.hid B4'
  have HQ := Lib.hid HW'
  have HBW := Lib.hid BW'
  have HGA := Lib.hid hga
  have HS0 := Lib.hid hsz0
  clear B0' B1' B2' B4' HW' BW' hga hsz0
  gi_wp2_with fail
  refine wpIn_rangeFunc_ownG rfl (by omega) (gf := 94) (lb := #[.pointer (some ⟨w1.heap.size, 0, none⟩)]) rfl trivial (enters_of Try.func94 (by kernel_rfl) rfl)
    (bits_stops 2 w1.heap.size B n cap ga (by omega) (by omega) W0 oa (HO.out.below HBW.out) HGA.out HB4.out.cell (by rw [HS0.out]; omega)) keep2_t
    (fun W l o o' hl ho _ _ => ⟨World.putObj_heap_other (by rw [HS0.out] at hl; omega), World.putObj_heap_other (by rw [HS0.out] at hl; omega)⟩) (Below.refl _ _) (fun _ => rfl)
    (divI w W0.heap.size n m cap' ob) (fun _ _ _ => False)
    (OwnFrom.and (fun s A C row hs hg hr => by
      obtain ⟨rv, h0, h1, h2, h3, h4, h5⟩ := hs
      have hr' : ∀ r, row = some r → ∃ o : Obj, A.heap[r]? = some o ∧ o.isCells = false := fun r e => (hr r e).2
      exact ⟨rv, h0.cells hg hr', h1.cells hg hr', h2.cells hg hr', OwnN.cells h3 hg hr', OwnN.cells h4 hg hr', Nat.le_trans h5 hg.size⟩) (ownFrom_below (Nat.le_refl _) (by have := HBW.out.size; omega)))
    (fun _ _ _ _ _ hs _ _ => hs)
    ⟨⟨_, HB0.out, HB1.out, HB2.out, by rw [divSt_nil, dgl_zero]; exact HQ.out, by rw [divSt_nil]; exact OwnN.nil _ _ _ _, Nat.le_refl _⟩, HBW.out⟩
    (fun x => { tmps := #[.slice oa (digs n).length cap, .slice ob (digs m).length cap', undef, .pointer (some ⟨w.heap.size, 0, none⟩), .pointer (some ⟨w.heap.size + 1, 0, none⟩), .pointer (some ⟨w.heap.size + 1 + 1, 0, none⟩), .int .i64 ((x.1.1 : Nat) : Int), .int .u64 ((x.1.2 : Nat) : Int), .slice oa (digs n).length cap, .int .i64 ((digs n).length : Int), .slice (some ⟨w.heap.size + 1 + 1 + 1, 0, none⟩) (digs n).length (digs n).length, .slice oa (digs n).length cap, .func (.func 94) #[] #[.pointer (some ⟨w1.heap.size, 0, none⟩)], .int .i64 ((x.1.1 : Nat) : Int), .int .u64 ((x.1.2 : Nat) : Int), undef, undef, undef, undef, undef, undef, undef, undef, undef, undef, undef, undef, undef, undef, undef, undef, undef, undef, undef, undef, undef, undef, undef], defers := [] }) ?assign ?body ?done ?stop
  case assign =>
    intro l x W K hK
    gi_wp2
    exact hK
  case stop =>
    rintro D c pre W _ _ h _
    exact h.elim
  case body =>
    rintro l pre x W ⟨⟨rv, b0, b1, b2, hq, hr, hSW⟩, hbw⟩ hlt
    have hstep := divSt_snoc m pre x
    have hrm := divSt_lt m hm pre
    obtain ⟨⟨q, r⟩, hs⟩ : ∃ s, divSt m pre = s := ⟨_, rfl⟩
    rw [hs] at hstep hrm hq hr
    clear hs
    have hp := x.2.1 (by omega)
    have hb := x.2.2
    dsimp only
    generalize x.1.1 = p at *
    generalize x.1.2 = b at *
    have HST := Lib.hid hstep
    have B0 := Lib.hid b0
    have B1 := Lib.hid b1
    have B2 := Lib.hid b2
    have HQ' := Lib.hid hq
    have HR := Lib.hid hr
    have HBW' := Lib.hid hbw
    have hlr : (digs r).length ≤ (digs m).length := (digs_length_le _ _).2 (Nat.lt_trans hrm (digs_lt m))
    have c2 : W.cell? ⟨w.heap.size + 1 + 1, 0, none⟩ = some rv := b2.cell
    have hown : ∀ j, j < W0.heap.size → some j ≠ rv.ownBlock := fun j hj h => by have := (hr.lt j h.symm).1; omega
    have HOW := Lib.hid hown
    clear hstep b0 b1 b2 hq hr hbw hown
    gi_wp2_with fail
    refine ⟨trivial, (CallsIn.inRound l (callsIn_wide.2 (double_any W0.heap.size rv r b W HR.out hb (by omega) hSW))).mono ?_⟩
    rintro e W1 ⟨v', rfl, hr1, hg1⟩
    have hub : ∀ row : Option Nat, (∀ g, row = some g → w.heap.size ≤ g) → (Value.slice ob (digs m).length cap').ownBlock = none ∨ (Value.slice ob (digs m).length cap').ownBlock ≠ row := fun row h => by
      by_cases he : (Value.slice ob (digs m).length cap').ownBlock = row
      · cases hv : (Value.slice ob (digs m).length cap').ownBlock with
        | none => exact Or.inl rfl
        | some g => have h1 := (HU.out.lt g hv).2; have h2 := h g (by rw [← he, hv]); omega
      · exact Or.inr he
    have hl2 : (digs (2 * r + b)).length ≤ 4097 := digs_twice _ m 4096 hlm (by omega)
    obtain ⟨oc, cc, rfl, hcc, hccm⟩ := hr1.shp
    have hSw : w.heap.size ≤ W0.heap.size := HBW.out.size
    have hS1 : W0.heap.size ≤ W1.heap.size := Nat.le_trans hSW hg1.size
    have hS0 := HS0.out
    have B0a := B0.out.grown hg1 (HOW.out _ (by omega))
    have B1a := B1.out.grown hg1 (HOW.out _ (by omega))
    have B2a := B2.out.grown hg1 (HOW.out _ (by omega))
    have HQa := HQ'.out.kept hg1 (Or.inr (HOW.out (w.heap.size + 3) (by omega)))
    have HBa := below_grown hg1 (show w.heap.size ≤ W.heap.size by have := HBW'.out.size; omega) (fun k h => by have := (HR.out.lt k h).1; have := HBW.out.size; omega)
    have c2 : W1.cell? ⟨w.heap.size + 1 + 1, 0, none⟩ = some rv := B2a.cell
    have f2 : W1.frozen? ⟨w.heap.size + 1 + 1, 0, none⟩ = false := B2a.free
    have c0 : W1.cell? ⟨w.heap.size, 0, none⟩ = some (.slice ob (digs m).length cap') := B0a.cell
    have hne : ∀ j, j < W0.heap.size → (Value.slice oc (digs (2 * r + b)).length cc).ownBlock = none ∨ (Value.slice oc (digs (2 * r + b)).length cc).ownBlock ≠ some j := fun j hj => Or.inr fun h => by have := (hr1.lt j h).1; omega
    have HR2 := hr1.kept (grownBy_set (World.grownBy.refl W1 (some (w.heap.size + 1 + 1))) 0 (.slice oc (digs (2 * r + b)).length cc)) (hne _ (by omega))
    have HU2 := ((HU.out.below HBW'.out).kept hg1 (hub _ (fun g h => by have := (HR.out.lt g h).1; omega))).kept (grownBy_set (World.grownBy.refl W1 (some (w.heap.size + 1 + 1))) 0 (.slice oc (digs (2 * r + b)).length cc)) (hub _ (fun g h => by cases h; omega))
    have HRR := Lib.hid HR2
    have HUU := Lib.hid HU2
    have HNE := Lib.hid hne
    have HG1 := Lib.hid hg1
    have HUB := Lib.hid hub
    have HR1 := Lib.hid hr1
    have B0a' := Lib.hid B0a
    have B1a' := Lib.hid B1a
    have B2a' := Lib.hid B2a
    have HQa' := Lib.hid HQa
    have HBa' := Lib.hid HBa
    clear hub HR2 HU2 hne hg1 hr1 B0a B1a B2a HQa HBa hS0
    gi_wp2_with fail
    refine ⟨trivial, (CallsIn.inRound l (callsIn_wide.2 (compare_any W0.heap.size B' _ _ (2 * r + b) m _ HRR.out HUU.out (by omega) (by omega)))).mono ?_⟩
    rintro e W2 ⟨rfl, k2, rfl⟩
    have hK3 := ((divK.grown (H := w.heap.size) hSW HG1.out HR.out).trans (divK.set W1 (w.heap.size + 1 + 1) 0 (.slice oc (digs (2 * r + b)).length cc) (Or.inl rfl))).drewN k2
    have B0c := ((B0a'.out.other ⟨w.heap.size + 1 + 1, 0, none⟩ (by show w.heap.size ≠ w.heap.size + 1 + 1; omega) (.slice oc (digs (2 * r + b)).length cc)).drewN k2)
    have B1c := ((B1a'.out.other ⟨w.heap.size + 1 + 1, 0, none⟩ (by show w.heap.size + 1 ≠ w.heap.size + 1 + 1; omega) (.slice oc (digs (2 * r + b)).length cc)).drewN k2)
    have B2c := ((B2a'.out.set (.slice oc (digs (2 * r + b)).length cc)).drewN k2)
    have HRc : OwnU ((W1.setCell ⟨w.heap.size + 1 + 1, 0, none⟩ (.slice oc (digs (2 * r + b)).length cc)).drewN k2) W0.heap.size (.slice oc (digs (2 * r + b)).length cc) (digs (2 * r + b)) := HRR.out
    have HUc : OwnU ((W1.setCell ⟨w.heap.size + 1 + 1, 0, none⟩ (.slice oc (digs (2 * r + b)).length cc)).drewN k2) B' (.slice ob (digs m).length cap') (digs m) := HUU.out
    have HQc : OwnU ((W1.setCell ⟨w.heap.size + 1 + 1, 0, none⟩ (.slice oc (digs (2 * r + b)).length cc)).drewN k2) (w.heap.size + 3) (.slice (some ⟨w.heap.size + 3, 0, none⟩) (digs n).length (digs n).length) (dgl (digs n).length q) :=
      (HQa'.out.kept (grownBy_set (World.grownBy.refl W1 (some (w.heap.size + 1 + 1))) 0 (.slice oc (digs (2 * r + b)).length cc)) (Or.inr (fun h => by have : w.heap.size + 3 = w.heap.size + 1 + 1 := Option.some.inj h; omega))).drewN k2
    have HBc : Below w.heap.size w ((W1.setCell ⟨w.heap.size + 1 + 1, 0, none⟩ (.slice oc (digs (2 * r + b)).length cc)).drewN k2) :=
      below_drewN ((HBW'.out.trans HBa'.out).setCell (p := ⟨w.heap.size + 1 + 1, 0, none⟩) (by show w.heap.size ≤ w.heap.size + 1 + 1; omega) _) k2
    have hS3 : W0.heap.size ≤ ((W1.setCell ⟨w.heap.size + 1 + 1, 0, none⟩ (.slice oc (digs (2 * r + b)).length cc)).drewN k2).heap.size := by
      show _ ≤ (W1.setCell _ _).heap.size; rw [World.size_setCell]; exact hS1
    clear c2 f2 c0 HRR HUU B0a' B1a' B2a' HQa' HBa' HG1 HR1 B0 B1 B2 HQ' HR HBW' HOW hS1
    generalize (W1.setCell ⟨w.heap.size + 1 + 1, 0, none⟩ (.slice oc (digs (2 * r + b)).length cc)).drewN k2 = W3 at *
    have HK3 := Lib.hid hK3
    have G0 := Lib.hid B0c
    have G1 := Lib.hid B1c
    have G2 := Lib.hid B2c
    have GR := Lib.hid HRc
    have GU := Lib.hid HUc
    have GQ := Lib.hid HQc
    have GB := Lib.hid HBc
    have c0 : W3.cell? ⟨w.heap.size, 0, none⟩ = some (.slice ob (digs m).length cap') := B0c.cell
    have c1 : W3.cell? ⟨w.heap.size + 1, 0, none⟩ = some (.slice (some ⟨w.heap.size + 3, 0, none⟩) (digs n).length (digs n).length) := B1c.cell
    have c2 : W3.cell? ⟨w.heap.size + 1 + 1, 0, none⟩ = some (.slice oc (digs (2 * r + b)).length cc) := B2c.cell
    clear hK3 B0c B1c B2c HRc HUc HQc HBc
    by_cases hle : m ≤ 2 * r + b
    · have hc : 0 ≤ cmpN (2 * r + b) m := by
        unfold cmpN; rw [if_neg (by omega)]; split <;> omega
      generalize cmpN (2 * r + b) m = cv at *
      gi_wp2_with fail
      refine ⟨trivial, (CallsIn.inRound l (callsIn_wide.2 (less_any W0.heap.size B' _ _ (2 * r + b) m W3 GR.out GU.out hle (by omega) (by omega) (HUB.out _ (fun g h => by have := (GR.out.lt g h).1; omega))))).mono ?_⟩
      rintro e W4 ⟨v2, rfl, hr4, hob4, hg4⟩
      have hlow : ∀ j, j < W0.heap.size → some j ≠ (Value.slice oc (digs (2 * r + b)).length cc).ownBlock := fun j hj h => by have := (GR.out.lt j h.symm).1; omega
      have hK4 := HK3.out.trans (divK.grown (H := w.heap.size) hS3 hg4 GR.out)
      have G0' := G0.out.grown hg4 (hlow _ (by rw [HS0.out]; omega))
      have G1' := G1.out.grown hg4 (hlow _ (by rw [HS0.out]; omega))
      have G2' := G2.out.grown hg4 (hlow _ (by rw [HS0.out]; omega))
      have GQ' := GQ.out.kept hg4 (Or.inr (hlow (w.heap.size + 3) (by rw [HS0.out]; omega)))
      have GB' := GB.out.trans (below_grown hg4 (by omega) (fun k h => by have := (GR.out.lt k h).1; omega))
      have hS4 : W0.heap.size ≤ W4.heap.size := Nat.le_trans hS3 hg4.size
      obtain ⟨od, cd, rfl, hcd, hcdm⟩ := hr4.shp
      have hne4 : ∀ j, j < W0.heap.size → (Value.slice od (digs (2 * r + b - m)).length cd).ownBlock = none ∨ (Value.slice od (digs (2 * r + b - m)).length cd).ownBlock ≠ some j := fun j hj => Or.inr fun h => by have := (hr4.lt j h).1; omega
      have HK4 := Lib.hid hK4
      have K0 := Lib.hid G0'
      have K1 := Lib.hid G1'
      have K2 := Lib.hid G2'
      have KR := Lib.hid hr4
      have KQ := Lib.hid GQ'
      have KB := Lib.hid GB'
      have KN := Lib.hid hne4
      have d1 : W4.cell? ⟨w.heap.size + 1, 0, none⟩ = some (.slice (some ⟨w.heap.size + 3, 0, none⟩) (digs n).length (digs n).length) := G1'.cell
      have d2 : W4.cell? ⟨w.heap.size + 1 + 1, 0, none⟩ = some (.slice oc (digs (2 * r + b)).length cc) := G2'.cell
      have e2 : W4.frozen? ⟨w.heap.size + 1 + 1, 0, none⟩ = false := G2'.free
      have hp32 : p / 32 < (digs n).length := by omega
      have d3 := OwnN.cell GQ' (p / 32) (by rw [dgl_length]; exact hp32)
      rw [dgl_get _ _ _ hp32] at d3
      have e3 := OwnN.frozen GQ' (p / 32)
      generalize hx : q / B32 ^ (p / 32) % B32 = xd at d3
      have hxd : xd < 4294967296 := by rw [← hx]; exact Nat.mod_lt _ (by unfold B32; omega)
      have HX := Lib.hid hx
      clear c0 c1 c2 HK3 G0 G1 G2 GR GU GQ GB hlow hob4 hg4 hK4 G0' G1' G2' GQ' GB' hr4 hne4 hx hS3
      gi_wp2_with fail
      have hq1 : IntKind.i64.wrap ((p : Int) / 32) = (p : Int) / 32 := IntWalk.i64_in _ (by omega)
      have hq2 : IntKind.i64.wrap ((p : Int) % 32) = (p : Int) % 32 := IntWalk.i64_in _ (by omega)
      have hpi : (p : Int) / 32 < ((digs n).length : Int) := by omega
      have hpj : (0 : Int) ≤ (p : Int) / 32 := by omega
      have hpk : ((p : Int) / 32).toNat = p / 32 := by omega
      have hpm : ((p : Int) % 32).toNat = p % 32 := by omega
      have hpn : (0 : Int) ≤ (p : Int) % 32 := by omega
      have hpo : (p : Int) % 32 ≤ 64 := by omega
      have hpt : (p : Int).tmod 32 = (p : Int) % 32 := Int.tmod_eq_emod_of_nonneg (by omega)
      have hmx : Try.prog.follows .mixedOrders = true := by kernel_rfl
      refine wpIn_round_still_tail 10 hmx (by kernel_rfl) (by kernel_rfl) (by rintro ⟨a, w, h⟩; exact h) ?_
      simp only [List.take_succ_cons, List.take_zero, List.drop_succ_cons, List.drop_zero]
      repeat still_step
      refine wpStill_nil ?_
      go_wp2_with fail
      have e5 : bits BinOp.or IntKind.u64 (xd : Int) (IntKind.u64.wrap (2 ^ (p % 32))) = ((xd ||| (1 <<< (p % 32)) : Nat) : Int) := by
        have h1 : 2 ^ (p % 32) ≤ 2 ^ 31 := Nat.pow_le_pow_right (by omega) (by omega)
        simp only [Nat.reducePow] at h1
        have h2 : ((2 : Int) ^ (p % 32)) = ((2 ^ (p % 32) : Nat) : Int) := by simp
        rw [h2, wrapU _ (by omega), orU _ _ (by omega) (by omega), Nat.shiftLeft_eq, Nat.one_mul]
      rw [e5]
      have hd := OwnN.stored ((KQ.out.kept (grownBy_set (World.grownBy.refl W4 (some (w.heap.size + 1 + 1))) 0 (.slice od (digs (2 * r + b - m)).length cd)) (Or.inr (fun h => by have : w.heap.size + 3 = w.heap.size + 1 + 1 := Option.some.inj h; omega)))) (p / 32) (xd ||| (1 <<< (p % 32)))
      rw [← HX.out, dgl_or _ _ _ _ (by have : 2 ^ 1 ≤ 2 ^ (32 - p % 32) := Nat.pow_le_pow_right (by omega) (by omega); omega)] at hd
      rw [HX.out] at hd
      have hKz := (HK4.out.trans (divK.set W4 (w.heap.size + 1 + 1) 0 (.slice od (digs (2 * r + b - m)).length cd) (Or.inl rfl))).trans (divK.set _ (w.heap.size + 3) (p / 32) (.int .u64 ((xd ||| (1 <<< (p % 32)) : Nat) : Int)) (Or.inr rfl))
      refine ⟨⟨hKz.size, fun k o _ h1 h2 => hKz.same k o h1 h2⟩, ⟨hKz.low _ (by rw [HS0.out]; omega) (by omega) (by omega), hKz.low _ (by rw [HS0.out]; omega) hg2 hg3⟩,
        ⟨_, (K0.out.other ⟨w.heap.size + 1 + 1, 0, none⟩ (by show w.heap.size ≠ w.heap.size + 1 + 1; omega) _).other ⟨w.heap.size + 3, p / 32, none⟩ (by show w.heap.size ≠ w.heap.size + 3; omega) _,
          (K1.out.other ⟨w.heap.size + 1 + 1, 0, none⟩ (by show w.heap.size + 1 ≠ w.heap.size + 1 + 1; omega) _).other ⟨w.heap.size + 3, p / 32, none⟩ (by show w.heap.size + 1 ≠ w.heap.size + 3; omega) _,
          (K2.out.set (.slice od (digs (2 * r + b - m)).length cd)).other ⟨w.heap.size + 3, p / 32, none⟩ (by show w.heap.size + 2 ≠ w.heap.size + 3; omega) _, ?_, ?_, ?_⟩, ?_⟩
      · rw [HST.out, divStep, if_pos hle]; exact hd.1
      · rw [HST.out, divStep, if_pos hle]
        exact (((KR.out.kept (grownBy_set (World.grownBy.refl W4 (some (w.heap.size + 1 + 1))) 0 (.slice od (digs (2 * r + b - m)).length cd)) (KN.out (w.heap.size + 1 + 1) (by rw [HS0.out]; omega)))).kept (grownBy_set (World.grownBy.refl (W4.setCell ⟨w.heap.size + 1 + 1, 0, none⟩ (.slice od (digs (2 * r + b - m)).length cd)) (some (w.heap.size + 3))) (p / 32) (.int .u64 ((xd ||| (1 <<< (p % 32)) : Nat) : Int))) (KN.out (w.heap.size + 3) (by rw [HS0.out]; omega))).drew
      · show _ ≤ ((W4.setCell _ _).setCell _ _).heap.size
        rw [World.size_setCell, World.size_setCell]; exact hS4
      · exact ((KB.out.setCell (p := ⟨w.heap.size + 1 + 1, 0, none⟩) (by show w.heap.size ≤ w.heap.size + 1 + 1; omega) _).setCell (p := ⟨w.heap.size + 3, p / 32, none⟩) (by show w.heap.size ≤ w.heap.size + 3; omega) _).drew
    · rw [cmpN_lt (by omega)]
      gi_wp2_with fail
      refine ⟨⟨HK3.out.size, fun k o _ h1 h2 => HK3.out.same k o h1 h2⟩, ⟨HK3.out.low _ (by rw [HS0.out]; omega) (by omega) (by omega), HK3.out.low _ (by rw [HS0.out]; omega) hg2 hg3⟩,
        ⟨_, G0.out, G1.out, G2.out, ?_, ?_, hS3⟩, GB.out⟩
      · rw [HST.out, divStep, if_neg hle]; exact GQ.out
      · rw [HST.out, divStep, if_neg hle]; exact GR.out
  case done =>
    rintro D xs W hD rfl ⟨⟨rv, b0, b1, b2, hq, hr, hSW⟩, hbw⟩ hK
    obtain ⟨ov, cv, rfl, _, _⟩ := hr.shp
    have hlt : n < 2 ^ (32 * (digs n).length) := by rw [← B32_pow]; exact digs_lt n
    have hall := divSt_all n m _ hm hlt
    rw [hall] at hq hr b2
    dsimp only at hq hr b2
    have hqn : n / m < B32 ^ (digs n).length := Nat.lt_of_le_of_lt (Nat.div_le_self _ _) (digs_lt n)
    have hqd : dv (dgl (digs n).length (n / m)) = n / m := by rw [dv_dgl, Nat.mod_eq_of_lt hqn]
    have HQD := Lib.hid hqd
    have B1 := Lib.hid b1
    have B2 := Lib.hid b2
    have HQ' := Lib.hid hq
    have HR := Lib.hid hr
    have HBW' := Lib.hid hbw
    have HK := Lib.hid hK
    have c1 : W.cell? ⟨w.heap.size + 1, 0, none⟩ = some (.slice (some ⟨w.heap.size + 3, 0, none⟩) (digs n).length (digs n).length) := b1.cell
    have c2 : W.cell? ⟨w.heap.size + 1 + 1, 0, none⟩ = some (.slice ov (digs (n % m)).length cv) := b2.cell
    have f1 : W.frozen? ⟨w.heap.size + 1, 0, none⟩ = false := b1.free
    have f2 : W.frozen? ⟨w.heap.size + 1 + 1, 0, none⟩ = false := b2.free
    clear hlt hall hq hr hqn hqd b0 b1 b2 hbw hK
    dsimp only
    gi_wp2_with fail
    refine wpIn_wide.2 ?_
    have ht := trim_at (w.heap.size + 3) (some ⟨w.heap.size + 3, 0, none⟩) (digs n).length (dgl (digs n).length (n / m)) W.drew (by rw [dgl_length]; exact HQ'.out) (small_dgl _ _) (by rw [dgl_length]; omega)
    rw [HQD.out, dgl_length] at ht
    have HT := Lib.hid ht
    clear ht
    go_region_with (go_at_call 87; refine (HT.out).mono ?_; rintro e w' ⟨rfl, rfl⟩)
    all_goals
      have hK2 : ((W.setCell ⟨w.heap.size + 1, 0, none⟩ (.slice (some ⟨w.heap.size + 3, 0, none⟩) (digs (n / m)).length (digs n).length)).setCell ⟨w.heap.size + 1 + 1, 0, none⟩ (.slice ov (digs (n % m)).length cv)).drew.heap[D]? = some (.deferred (some [])) :=
        (KeepsOthers.setCell _ _ _).same D _ ((KeepsOthers.setCell _ _ _).same D _ HK.out rfl) rfl
      have hb1 : Box ((W.setCell ⟨w.heap.size + 1, 0, none⟩ (.slice (some ⟨w.heap.size + 3, 0, none⟩) (digs (n / m)).length (digs n).length)).setCell ⟨w.heap.size + 1 + 1, 0, none⟩ (.slice ov (digs (n % m)).length cv)).drew (w.heap.size + 1) 69 _ := ((B1.out.set (.slice (some ⟨w.heap.size + 3, 0, none⟩) (digs (n / m)).length (digs n).length)).other ⟨w.heap.size + 1 + 1, 0, none⟩ (by show w.heap.size + 1 ≠ w.heap.size + 1 + 1; omega) (.slice ov (digs (n % m)).length cv))
      have hb2 : Box ((W.setCell ⟨w.heap.size + 1, 0, none⟩ (.slice (some ⟨w.heap.size + 3, 0, none⟩) (digs (n / m)).length (digs n).length)).setCell ⟨w.heap.size + 1 + 1, 0, none⟩ (.slice ov (digs (n % m)).length cv)).drew (w.heap.size + 2) 69 _ := ((B2.out.other ⟨w.heap.size + 1, 0, none⟩ (by show w.heap.size + 2 ≠ w.heap.size + 1; omega) (.slice (some ⟨w.heap.size + 3, 0, none⟩) (digs (n / m)).length (digs n).length)).set (.slice ov (digs (n % m)).length cv))
      have hq1 := ((HQ'.out.trimmed (small_dgl _ _)).kept (grownBy_set (World.grownBy.refl W (some (w.heap.size + 1))) 0 (.slice (some ⟨w.heap.size + 3, 0, none⟩) (digs (n / m)).length (digs n).length)) (Or.inr (fun h => by have : w.heap.size + 3 = w.heap.size + 1 := Option.some.inj h; omega))).kept
        (grownBy_set (World.grownBy.refl (W.setCell ⟨w.heap.size + 1, 0, none⟩ (.slice (some ⟨w.heap.size + 3, 0, none⟩) (digs (n / m)).length (digs n).length)) (some (w.heap.size + 1 + 1))) 0 (.slice ov (digs (n % m)).length cv)) (Or.inr (fun h => by have : w.heap.size + 3 = w.heap.size + 1 + 1 := Option.some.inj h; omega))
      have hnv : ∀ j, j < W0.heap.size → (Value.slice ov (digs (n % m)).length cv).ownBlock = none ∨ (Value.slice ov (digs (n % m)).length cv).ownBlock ≠ some j := fun j hj => Or.inr fun h => by have := (HR.out.lt j h).1; omega
      have hr1 := (HR.out.kept (grownBy_set (World.grownBy.refl W (some (w.heap.size + 1))) 0 (.slice (some ⟨w.heap.size + 3, 0, none⟩) (digs (n / m)).length (digs n).length)) (hnv _ (by rw [HS0.out]; omega))).kept
        (grownBy_set (World.grownBy.refl (W.setCell ⟨w.heap.size + 1, 0, none⟩ (.slice (some ⟨w.heap.size + 3, 0, none⟩) (digs (n / m)).length (digs n).length)) (some (w.heap.size + 1 + 1))) 0 (.slice ov (digs (n % m)).length cv)) (hnv _ (by rw [HS0.out]; omega))
      have hbe := ((HBW'.out.setCell (p := ⟨w.heap.size + 1, 0, none⟩) (by show w.heap.size ≤ w.heap.size + 1; omega) (.slice (some ⟨w.heap.size + 3, 0, none⟩) (digs (n / m)).length (digs n).length)).setCell (p := ⟨w.heap.size + 1 + 1, 0, none⟩) (by show w.heap.size ≤ w.heap.size + 1 + 1; omega) (.slice ov (digs (n % m)).length cv)).drew
      rw [HQD.out] at hq1
      have hq1 := hq1.drew
      have hr1 := hr1.drew
      have hSw : w.heap.size ≤ W0.heap.size := HBW.out.size
      generalize ((W.setCell ⟨w.heap.size + 1, 0, none⟩ (.slice (some ⟨w.heap.size + 3, 0, none⟩) (digs (n / m)).length (digs n).length)).setCell ⟨w.heap.size + 1 + 1, 0, none⟩ (.slice ov (digs (n % m)).length cv)).drew = WW at *
      simp only [Exit.then]
      have HK2 := Lib.hid hK2
      have HB1 := Lib.hid hb1
      have HB2 := Lib.hid hb2
      have HQ1 := Lib.hid hq1
      have HR1 := Lib.hid hr1
      have HBE := Lib.hid hbe
      have HNV := Lib.hid hnv
      clear hK2 hb1 hb2 hq1 hr1 hbe hnv c1 c2 f1 f2
      gi_wp2_with fail
      refine ⟨by simp, .inl ⟨_, _, rfl, run_takeDeferred HK2.out, ?_⟩⟩
      have hDc : ∀ r, some D = some r → ∃ o : Obj, WW.heap[r]? = some o ∧ o.isCells = false := fun r e => by cases e; exact ⟨_, HK2.out, rfl⟩
      have hc1 := (HB1.out.cells (grownBy_putObj' WW D (.deferred none)) hDc).cell
      have hc2 := (HB2.out.cells (grownBy_putObj' WW D (.deferred none)) hDc).cell
      refine ⟨.tuple #[.slice (some ⟨w.heap.size + 3, 0, none⟩) (digs (n / m)).length (digs n).length, .slice ov (digs (n % m)).length cv], ?_, _, _, rfl, ?_, ?_, ?_⟩
      · have hc2' : (WW.putObj D (.deferred none)).cell? ⟨w.heap.size + 1 + 1, 0, none⟩ = some (.slice ov (digs (n % m)).length cv) := hc2
        simp [results, Try.results63, go_sem, hc1, hc2']
      · exact (HQ1.out.cells (grownBy_putObj' WW D (.deferred none)) hDc).mono (by omega)
      · exact (HR1.out.cells (grownBy_putObj' WW D (.deferred none)) hDc).mono hSw
      · exact HBE.out.trans (belowK_b (w := w) (Nat.le_refl _) WW D _ _ (by omega) HK2.out rfl rfl)

end Go.Proofs.Ytieapjdabffjcaa
