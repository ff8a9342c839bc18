/-
  Plain numbers: base 256 texts (most significant byte first) and base 2^32 digits (least significant first).
-/
import Derived.Test.YtieapjdabffjcaaRows
namespace Go.Proofs.Ytieapjdabffjcaa.Nm

/-! ### texts to the base 256 -/
def val (l : List UInt8) : Nat := l.foldl (fun a b => a * 256 + b.toNat) 0
def natl : List UInt8 → Bool
  | [] => true
  | b :: _ => b != 0
def encF : Nat → Nat → List UInt8
  | 0, _ => []
  | f + 1, n => if n = 0 then [] else encF f (n / 256) ++ [UInt8.ofNat (n % 256)]
def enc (n : Nat) : List UInt8 := encF n n

theorem foldl_val (l : List UInt8) : ∀ a, l.foldl (fun a b => a * 256 + b.toNat) a = a * 256 ^ l.length + val l := by
  induction l with
  | nil => intro a; simp [val]
  | cons b l ih =>
    intro a
    simp only [List.foldl_cons, val, List.length_cons]
    rw [ih, ih (0 * 256 + b.toNat)]
    rw [Nat.pow_succ, Nat.add_mul]
    simp only [Nat.zero_mul, Nat.zero_add]
    have : a * 256 * 256 ^ l.length = a * (256 ^ l.length * 256) := by rw [Nat.mul_assoc, Nat.mul_comm 256]
    omega

theorem val_nil : val [] = 0 := rfl
theorem val_cons (b : UInt8) (l : List UInt8) : val (b :: l) = b.toNat * 256 ^ l.length + val l := by
  unfold val; rw [List.foldl_cons, foldl_val]; simp [val]
theorem val_append (l m : List UInt8) : val (l ++ m) = val l * 256 ^ m.length + val m := by
  unfold val; rw [List.foldl_append, foldl_val]; rfl
theorem val_snoc (l : List UInt8) (b : UInt8) : val (l ++ [b]) = val l * 256 + b.toNat := by
  rw [val_append]; simp [val_cons, val_nil]
theorem val_lt (l : List UInt8) : val l < 256 ^ l.length := by
  induction l with
  | nil => simp [val]
  | cons b l ih =>
    rw [val_cons, List.length_cons, Nat.pow_succ]
    have hb := b.toNat_lt
    have h : b.toNat * 256 ^ l.length ≤ 255 * 256 ^ l.length := Nat.mul_le_mul_right _ (by omega)
    omega

theorem encF_zero (f : Nat) : encF f 0 = [] := by cases f <;> simp [encF]
theorem encF_enough : ∀ (n f g : Nat), n ≤ f → n ≤ g → encF f n = encF g n := by
  intro n
  induction n using Nat.strongRecOn with
  | _ n ih =>
    intro f g hf hg
    by_cases h0 : n = 0
    · subst h0; rw [encF_zero, encF_zero]
    · obtain ⟨f, rfl⟩ : ∃ k, f = k + 1 := ⟨f - 1, by omega⟩
      obtain ⟨g, rfl⟩ : ∃ k, g = k + 1 := ⟨g - 1, by omega⟩
      have hd : n / 256 < n := Nat.div_lt_self (by omega) (by omega)
      simp only [encF, h0, if_false]
      rw [ih (n / 256) hd f g (by omega) (by omega)]
theorem enc_zero : enc 0 = [] := rfl
theorem enc_pos (n : Nat) (h : 0 < n) : enc n = enc (n / 256) ++ [UInt8.ofNat (n % 256)] := by
  unfold enc
  obtain ⟨k, rfl⟩ : ∃ k, n = k + 1 := ⟨n - 1, by omega⟩
  have hd : (k + 1) / 256 < k + 1 := Nat.div_lt_self (by omega) (by omega)
  simp only [encF, Nat.add_eq_zero_iff, Nat.succ_ne_self, and_false, if_false]
  rw [encF_enough ((k + 1) / 256) k ((k + 1) / 256) (by omega) (Nat.le_refl _)]
/-- one digit more behind: nothing is written while nothing has been -/
theorem enc_step (m d : Nat) (hd : d < 256) : enc (m * 256 + d) = if m = 0 ∧ d = 0 then [] else enc m ++ [UInt8.ofNat d] := by
  by_cases h : m = 0 ∧ d = 0
  · obtain ⟨rfl, rfl⟩ := h; simp [enc_zero]
  · rw [if_neg h, enc_pos _ (by omega)]
    rw [show (m * 256 + d) / 256 = m by omega, show (m * 256 + d) % 256 = d by omega]
theorem val_enc (n : Nat) : val (enc n) = n := by
  induction n using Nat.strongRecOn with
  | _ n ih =>
    by_cases h0 : n = 0
    · subst h0; rfl
    · rw [enc_pos n (by omega), val_snoc, ih (n / 256) (Nat.div_lt_self (by omega) (by omega))]
      have : (UInt8.ofNat (n % 256)).toNat = n % 256 := by simp
      omega
theorem enc_ne_nil (n : Nat) (h : 0 < n) : enc n ≠ [] := by rw [enc_pos n h]; simp
theorem natl_enc (n : Nat) : natl (enc n) = true := by
  induction n using Nat.strongRecOn with
  | _ n ih =>
    by_cases h0 : n = 0
    · subst h0; rfl
    · rw [enc_pos n (by omega)]
      by_cases h1 : n / 256 = 0
      · rw [h1, enc_zero]
        simp only [List.nil_append, natl, bne_iff_ne]
        intro h
        have := congrArg UInt8.toNat h
        simp at this
        omega
      · have := ih (n / 256) (Nat.div_lt_self (by omega) (by omega))
        cases he : enc (n / 256) with
        | nil => exact absurd he (enc_ne_nil _ (by omega))
        | cons b l => rw [he] at this; simpa [natl] using this
theorem natl_snoc (l : List UInt8) (b : UInt8) (h : natl (l ++ [b]) = true) : natl l = true ∧ (l = [] → b ≠ 0) := by
  cases l with
  | nil => simp [natl] at h ⊢; exact h
  | cons c l => simp [natl] at h ⊢; exact h
/-- recursion from the list's end -/
theorem snoc_rec {α : Type} {p : List α → Prop} (h0 : p []) (hs : ∀ l b, p l → p (l ++ [b])) : ∀ l, p l := by
  intro l
  have key : ∀ n (l : List α), l.length = n → p l := by
    intro n
    induction n with
    | zero => intro l hl; rw [List.eq_nil_of_length_eq_zero hl]; exact h0
    | succ n ih =>
      intro l hl
      have hne : l ≠ [] := by intro h; subst h; simp at hl
      rw [← List.dropLast_concat_getLast hne]
      exact hs _ _ (ih _ (by simp [hl]))
  exact key _ l rfl
theorem enc_val : ∀ l : List UInt8, natl l = true → enc (val l) = l := by
  refine snoc_rec ?_ ?_
  · intro _; rfl
  · intro l b ih h
    obtain ⟨h1, h2⟩ := natl_snoc l b h
    rw [val_snoc, enc_step _ _ b.toNat_lt, ih h1]
    have hb : UInt8.ofNat b.toNat = b := by simp
    rw [hb, if_neg]
    rintro ⟨hv, hb0⟩
    have hl : l = [] := by rw [← ih h1, hv, enc_zero]
    exact h2 hl (by rw [← hb, hb0]; rfl)
theorem enc_length_le (n k : Nat) : (enc n).length ≤ k ↔ n < 256 ^ k := by
  induction k generalizing n with
  | zero =>
    by_cases h : n = 0
    · subst h; simp [enc_zero]
    · have := enc_ne_nil n (by omega)
      have : 0 < (enc n).length := List.length_pos_iff.2 this
      rw [Nat.pow_zero]; omega
  | succ k ih =>
    by_cases h : n = 0
    · subst h; simp [enc_zero, Nat.pow_pos]
    · rw [enc_pos n (by omega), List.length_append, List.length_singleton, Nat.pow_succ]
      have := ih (n / 256)
      rw [Nat.div_lt_iff_lt_mul (by omega)] at this
      omega
theorem enc_inj {a b : Nat} (h : enc a = enc b) : a = b := by rw [← val_enc a, h, val_enc]
theorem val_inj {a b : List UInt8} (ha : natl a = true) (hb : natl b = true) (h : val a = val b) : a = b := by rw [← enc_val a ha, h, enc_val b hb]
theorem val_lt_of_length (l : List UInt8) (k : Nat) (h : l.length ≤ k) : val l < 256 ^ k :=
  Nat.lt_of_lt_of_le (val_lt l) (Nat.pow_le_pow_right (by omega) h)
theorem length_le_of_val (l : List UInt8) (hn : natl l = true) (k : Nat) (h : val l < 256 ^ k) : l.length ≤ k := by
  rw [← enc_val l hn]; exact (enc_length_le _ _).2 h
theorem val_eq_zero (l : List UInt8) (hn : natl l = true) : val l = 0 ↔ l = [] := by
  constructor
  · intro h; rw [← enc_val l hn, h]; rfl
  · intro h; rw [h]; rfl

/-! ### digits to the base 2^32 -/
def B32 : Nat := 4294967296
def dv : List Nat → Nat
  | [] => 0
  | d :: l => d + B32 * dv l
def small (l : List Nat) : Prop := ∀ x ∈ l, x < B32
def digF : Nat → Nat → List Nat
  | 0, _ => []
  | f + 1, n => if n = 0 then [] else (n % B32) :: digF f (n / B32)
def digs (n : Nat) : List Nat := digF n n

theorem digF_zero (f : Nat) : digF f 0 = [] := by cases f <;> simp [digF]
theorem digF_enough : ∀ (n f g : Nat), n ≤ f → n ≤ g → digF f n = digF g n := by
  intro n
  induction n using Nat.strongRecOn with
  | _ n ih =>
    intro f g hf hg
    by_cases h0 : n = 0
    · subst h0; rw [digF_zero, digF_zero]
    · obtain ⟨f, rfl⟩ : ∃ k, f = k + 1 := ⟨f - 1, by omega⟩
      obtain ⟨g, rfl⟩ : ∃ k, g = k + 1 := ⟨g - 1, by omega⟩
      have hd : n / B32 < n := Nat.div_lt_self (by omega) (by unfold B32; omega)
      simp only [digF, h0, if_false]
      rw [ih (n / B32) hd f g (by omega) (by omega)]
theorem digs_zero : digs 0 = [] := rfl
theorem digs_pos (n : Nat) (h : 0 < n) : digs n = (n % B32) :: digs (n / B32) := by
  unfold digs
  obtain ⟨k, rfl⟩ : ∃ k, n = k + 1 := ⟨n - 1, by omega⟩
  have hd : (k + 1) / B32 < k + 1 := Nat.div_lt_self (by omega) (by unfold B32; omega)
  simp only [digF, Nat.add_eq_zero_iff, Nat.succ_ne_self, and_false, if_false]
  rw [digF_enough ((k + 1) / B32) k ((k + 1) / B32) (by omega) (Nat.le_refl _)]
theorem dv_digs (n : Nat) : dv (digs n) = n := by
  induction n using Nat.strongRecOn with
  | _ n ih =>
    by_cases h0 : n = 0
    · subst h0; rfl
    · rw [digs_pos n (by omega), dv, ih (n / B32) (Nat.div_lt_self (by omega) (by unfold B32; omega))]
      exact Nat.mod_add_div n B32
theorem small_digs (n : Nat) : small (digs n) := by
  induction n using Nat.strongRecOn with
  | _ n ih =>
    by_cases h0 : n = 0
    · subst h0; intro x hx; simp [digs_zero] at hx
    · rw [digs_pos n (by omega)]
      intro x hx
      rcases List.mem_cons.1 hx with rfl | hx
      · exact Nat.mod_lt _ (by unfold B32; omega)
      · exact ih (n / B32) (Nat.div_lt_self (by omega) (by unfold B32; omega)) x hx
theorem digs_cons (d n : Nat) (hd : d < B32) (h : 0 < d ∨ 0 < n) : digs (d + B32 * n) = d :: digs n := by
  have hB : 0 < B32 := by unfold B32; omega
  have hp : 0 < d + B32 * n := by
    rcases h with h | h
    · omega
    · have := Nat.mul_pos hB h; omega
  rw [digs_pos _ hp, Nat.add_mul_mod_self_left, Nat.mod_eq_of_lt hd, Nat.add_mul_div_left _ _ hB, Nat.div_eq_of_lt hd, Nat.zero_add]
/-- zeros behind the most significant digit -/
def trimL (l : List Nat) : List Nat := digs (dv l)
theorem small_tail {d : Nat} {l : List Nat} (h : small (d :: l)) : d < B32 ∧ small l := ⟨h d (by simp), fun x hx => h x (by simp [hx])⟩
theorem dv_eq_zero : ∀ l : List Nat, dv l = 0 → l = List.replicate l.length 0
  | [], _ => rfl
  | d :: l, h => by
    have hB : 0 < B32 := by unfold B32; omega
    simp only [dv] at h
    have h1 : d = 0 := by omega
    have h2 : dv l = 0 := by
      rcases Nat.eq_zero_or_pos (dv l) with h2 | h2
      · exact h2
      · have := Nat.mul_pos hB h2; omega
    subst h1
    have := dv_eq_zero l h2
    simp only [List.length_cons, List.replicate_succ]
    rw [← this]
theorem trim_split : ∀ l : List Nat, small l → l = digs (dv l) ++ List.replicate (l.length - (digs (dv l)).length) 0 ∧ (digs (dv l)).length ≤ l.length
  | [], _ => by simp [dv, digs_zero]
  | d :: l, h => by
    obtain ⟨h1, h2⟩ := small_tail h
    obtain ⟨i1, i2⟩ := trim_split l h2
    by_cases hz : d = 0 ∧ dv l = 0
    · obtain ⟨rfl, h3⟩ := hz
      have := dv_eq_zero l h3
      simp only [dv, h3, digs_zero, Nat.mul_zero, Nat.add_zero, List.nil_append, List.length_nil, Nat.sub_zero, List.length_cons, List.replicate_succ, Nat.zero_le, and_true]
      rw [← this]
    · have hp : 0 < d ∨ 0 < dv l := by omega
      simp only [dv]
      rw [digs_cons d (dv l) h1 hp]
      simp only [List.length_cons, List.cons_append, List.cons.injEq, true_and]
      exact ⟨by rw [show l.length + 1 - ((digs (dv l)).length + 1) = l.length - (digs (dv l)).length by omega]; exact i1, by omega⟩
theorem dv_append (l m : List Nat) : dv (l ++ m) = dv l + B32 ^ l.length * dv m := by
  induction l with
  | nil => simp [dv]
  | cons d l ih =>
    simp only [List.cons_append, dv, ih, List.length_cons, Nat.pow_succ]
    rw [Nat.mul_add, ← Nat.mul_assoc, Nat.mul_comm B32 (B32 ^ l.length)]
    omega
theorem dv_lt (l : List Nat) (h : small l) : dv l < B32 ^ l.length := by
  induction l with
  | nil => simp [dv]
  | cons d l ih =>
    obtain ⟨h1, h2⟩ := small_tail h
    have := ih h2
    simp only [dv, List.length_cons, Nat.pow_succ]
    have h3 : B32 * (dv l + 1) ≤ B32 * B32 ^ l.length := Nat.mul_le_mul_left _ this
    rw [Nat.mul_comm (B32 ^ l.length)]
    rw [Nat.mul_add] at h3
    omega
theorem digs_dv (l : List Nat) (h : small l) (hn : l.getLast? ≠ some 0) : digs (dv l) = l := by
  obtain ⟨h1, h2⟩ := trim_split l h
  by_cases he : l.length - (digs (dv l)).length = 0
  · rw [he] at h1; simpa using h1.symm
  · exfalso
    apply hn
    rw [h1]
    obtain ⟨k, hk⟩ : ∃ k, l.length - (digs (dv l)).length = k + 1 := ⟨l.length - (digs (dv l)).length - 1, by omega⟩
    rw [hk, List.replicate_succ', ← List.append_assoc]
    simp
theorem digs_last (n : Nat) : (digs n).getLast? ≠ some 0 := by
  induction n using Nat.strongRecOn with
  | _ n ih =>
    by_cases h0 : n = 0
    · subst h0; simp [digs_zero]
    · rw [digs_pos n (by omega)]
      by_cases h1 : n / B32 = 0
      · rw [h1, digs_zero]
        have : n % B32 = n := by
          have := Nat.mod_add_div n B32
          rw [h1] at this; omega
        simp [this, h0]
      · have := ih (n / B32) (Nat.div_lt_self (by omega) (by unfold B32; omega))
        have h2 : 0 < n / B32 := Nat.pos_of_ne_zero h1
        rw [digs_pos (n / B32) h2] at this ⊢
        simpa [List.getLast?_cons_cons] using this
theorem digs_length_le (n k : Nat) : (digs n).length ≤ k ↔ n < B32 ^ k := by
  induction k generalizing n with
  | zero =>
    by_cases h : n = 0
    · subst h; simp [digs_zero]
    · rw [digs_pos n (by omega), Nat.pow_zero, List.length_cons]; omega
  | succ k ih =>
    by_cases h : n = 0
    · subst h; simp [digs_zero, Nat.pow_pos, B32]
    · rw [digs_pos n (by omega), List.length_cons, Nat.pow_succ]
      have := ih (n / B32)
      rw [Nat.div_lt_iff_lt_mul (by unfold B32; omega)] at this
      omega
theorem digs_eq_nil (n : Nat) : digs n = [] ↔ n = 0 := by
  constructor
  · intro h; rw [← dv_digs n, h]; rfl
  · intro h; subst h; rfl

/-! ### a fixed number of digits of a number -/
def dgl (n N : Nat) : List Nat := (List.range n).map fun j => N / B32 ^ j % B32
theorem dgl_length (n N : Nat) : (dgl n N).length = n := by simp [dgl]
theorem dgl_get (n N j : Nat) (h : j < n) : (dgl n N)[j]'(by rw [dgl_length]; exact h) = N / B32 ^ j % B32 := by simp [dgl]
theorem small_dgl (n N : Nat) : small (dgl n N) := by
  intro x hx
  simp only [dgl, List.mem_map] at hx
  obtain ⟨j, _, rfl⟩ := hx
  exact Nat.mod_lt _ (by unfold B32; omega)
theorem map_range_succ (f : Nat → Nat) (n : Nat) : (List.range (n + 1)).map f = f 0 :: (List.range n).map fun j => f (j + 1) := by
  rw [List.range_succ_eq_map, List.map_cons, List.map_map]; rfl
theorem pow_shift (b N j : Nat) : N / b ^ (j + 1) % b = N / b / b ^ j % b := by
  rw [Nat.div_div_eq_div_mul, Nat.pow_succ, Nat.mul_comm b]
theorem pow_first (b N : Nat) : N / b ^ 0 % b = N % b := by rw [Nat.pow_zero, Nat.div_one]
theorem dgl_succ (n N : Nat) : dgl (n + 1) N = (N % B32) :: dgl n (N / B32) := by
  unfold dgl
  rw [map_range_succ, pow_first]
  exact congrArg _ (List.map_congr_left fun j _ => pow_shift B32 N j)
theorem dv_dgl (n : Nat) : ∀ N, dv (dgl n N) = N % B32 ^ n := by
  induction n with
  | zero => intro N; simp [dgl, dv, Nat.mod_one]
  | succ n ih =>
    intro N
    rw [dgl_succ, dv, ih, Nat.pow_succ, Nat.mul_comm (B32 ^ n)]
    exact (Nat.mod_mul).symm
theorem B32_two : B32 = 2 ^ 32 := by simp [B32]
theorem B32_pow (k : Nat) : B32 ^ k = 2 ^ (32 * k) := by rw [B32_two, ← Nat.pow_mul]
theorem dgl_zero (n : Nat) : dgl n 0 = List.replicate n 0 := by
  unfold dgl
  simp [List.map_const']
/-- one small number shifted in by 'or' turns one digit alone -/
theorem dgl_or (n N c p : Nat) (hc : c < 2 ^ (32 - p % 32)) :
    (dgl n N).set (p / 32) ((N / B32 ^ (p / 32) % B32) ||| (c <<< (p % 32))) = dgl n (N ||| (c <<< p)) := by
  apply List.ext_getElem
  · simp [dgl_length]
  · intro j h1 h2
    have hj : j < n := by simpa [dgl_length] using h2
    rw [List.getElem_set, dgl_get n _ j hj]
    have hdig : ∀ M : Nat, ∀ j i, (M / B32 ^ j % B32).testBit i = (decide (i < 32) && M.testBit (32 * j + i)) := by
      intro M j i
      rw [B32_pow, B32_two, Nat.testBit_mod_two_pow, Nat.testBit_div_two_pow, Nat.add_comm i]
    have hc' : ∀ i, 32 - p % 32 ≤ i → c.testBit i = false := fun i hi =>
      Nat.testBit_lt_two_pow (Nat.lt_of_lt_of_le hc (Nat.pow_le_pow_right (by omega) hi))
    split
    · rename_i he
      subst he
      apply Nat.eq_of_testBit_eq
      intro i
      rw [dgl_get n _ (p / 32) hj, Nat.testBit_or, hdig, hdig, Nat.testBit_or, Nat.testBit_shiftLeft, Nat.testBit_shiftLeft]
      have e1 : (32 * (p / 32) + i ≥ p) ↔ (i ≥ p % 32) := by omega
      have e2 : 32 * (p / 32) + i - p = i - p % 32 := by omega
      rw [e2]
      by_cases hi : i < 32
      · by_cases hg : i ≥ p % 32
        · simp [hi, hg, e1.2 hg]
        · have : ¬ (32 * (p / 32) + i ≥ p) := by omega
          simp [hi, hg, this]
      · have hz : c.testBit (i - p % 32) = false := hc' _ (by omega)
        simp [hi, hz]
    · rename_i he
      rw [dgl_get n _ j hj]
      apply Nat.eq_of_testBit_eq
      intro i
      rw [hdig, hdig, Nat.testBit_or, Nat.testBit_shiftLeft]
      by_cases hi : i < 32
      · by_cases hg : 32 * j + i ≥ p
        · have hz : c.testBit (32 * j + i - p) = false := hc' _ (by omega)
          simp [hz]
        · simp [hg]
      · simp [hi]

/-! ### strings -/
def nv (s : ByteArray) : Nat := val s.data.toList
def isN (s : ByteArray) : Bool := natl s.data.toList
def encS (n : Nat) : ByteArray := ⟨(enc n).toArray⟩
theorem nv_encS (n : Nat) : nv (encS n) = n := by simp [nv, encS, val_enc]
theorem isN_encS (n : Nat) : isN (encS n) = true := by simp [isN, encS, natl_enc]
theorem encS_nv (s : ByteArray) (h : isN s = true) : encS (nv s) = s := by
  unfold encS nv; rw [enc_val _ h]
theorem size_encS (n : Nat) : (encS n).size = (enc n).length := by simp [encS, ByteArray.size]
theorem encS_inj {a b : Nat} (h : encS a = encS b) : a = b := by rw [← nv_encS a, h, nv_encS]
theorem encS_size_le (n k : Nat) : (encS n).size ≤ k ↔ n < 256 ^ k := by rw [size_encS]; exact enc_length_le n k
theorem nv_lt (s : ByteArray) : nv s < 256 ^ s.size := by
  have h : s.data.toList.length = s.size := by rw [Array.length_toList]; rfl
  rw [← h]; exact val_lt s.data.toList

theorem slen (s : ByteArray) : s.data.toList.length = s.size := by rw [Array.length_toList]; rfl
/-- the number of a string's first k bytes, the others 0 -/
def wnum (s : ByteArray) (k : Nat) : Nat := val (s.data.toList.take k) * 256 ^ (s.size - k)
theorem wnum_zero (s : ByteArray) : wnum s 0 = 0 := by simp [wnum, val]
theorem wnum_all (s : ByteArray) : wnum s s.size = nv s := by
  rw [wnum, Nat.sub_self, Nat.pow_zero, Nat.mul_one, List.take_of_length_le (by rw [slen]; exact Nat.le_refl _)]; rfl
theorem take_snoc (s : ByteArray) (k : Nat) (h : k < s.size) : s.data.toList.take (k + 1) = s.data.toList.take k ++ [s[k]] := by
  rw [List.take_succ_eq_append_getElem (by simpa using h)]; rfl
theorem two_256 (a : Nat) : 256 ^ a = 2 ^ (8 * a) := by rw [show (256 : Nat) = 2 ^ 8 by simp, ← Nat.pow_mul]
theorem wnum_succ (s : ByteArray) (k : Nat) (h : k < s.size) : wnum s (k + 1) = wnum s k ||| (s[k].toNat <<< (8 * (s.size - 1 - k))) := by
  obtain ⟨a, ha⟩ : ∃ a, a = s.size - 1 - k := ⟨_, rfl⟩
  have e1 : s.size - k = a + 1 := by omega
  have e2 : s.size - (k + 1) = a := by omega
  rw [wnum, wnum, take_snoc s k h, val_snoc, e1, e2, ← ha, Nat.shiftLeft_eq]
  generalize val (s.data.toList.take k) = m
  have hb := s[k].toNat_lt
  rw [two_256, two_256, ← Nat.shiftLeft_eq, ← Nat.shiftLeft_eq, ← Nat.shiftLeft_eq]
  rw [show 8 * (a + 1) = 8 + 8 * a by omega, Nat.shiftLeft_add, ← Nat.shiftLeft_or_distrib]
  congr 1
  rw [← Nat.shiftLeft_add_eq_or_of_lt (by omega), Nat.shiftLeft_eq]

theorem dgl_digs (n N : Nat) (h1 : N < B32 ^ n) (h2 : 0 < n → B32 ^ (n - 1) ≤ N) : dgl n N = digs N := by
  have hd : dv (dgl n N) = N := by rw [dv_dgl, Nat.mod_eq_of_lt h1]
  obtain ⟨s1, s2⟩ := trim_split (dgl n N) (small_dgl n N)
  rw [hd, dgl_length] at s1 s2
  have hl : n ≤ (digs N).length := by
    rcases Nat.eq_zero_or_pos n with h0 | h0
    · omega
    · have := h2 h0
      have h3 := digs_length_le N (n - 1)
      omega
  rw [s1, show n - (digs N).length = 0 by omega]; simp
theorem nv_ge (s : ByteArray) (hn : isN s = true) (h : 0 < s.size) : 256 ^ (s.size - 1) ≤ nv s := by
  have h1 := length_le_of_val s.data.toList hn (s.size - 1)
  rw [slen] at h1
  have : ¬ val s.data.toList < 256 ^ (s.size - 1) := fun h2 => by have := h1 h2; omega
  unfold nv; omega
theorem words_digs (s : ByteArray) (hn : isN s = true) : dgl ((s.size + 3) / 4) (nv s) = digs (nv s) := by
  apply dgl_digs
  · have := nv_lt s
    refine Nat.lt_of_lt_of_le this ?_
    rw [B32_pow, two_256]
    exact Nat.pow_le_pow_right (by omega) (by omega)
  · intro h
    refine Nat.le_trans ?_ (nv_ge s hn (by omega))
    rw [B32_pow, two_256]
    exact Nat.pow_le_pow_right (by omega) (by omega)
theorem isN_iff (s : ByteArray) : isN s = true ↔ s = encS (nv s) := ⟨fun h => (encS_nv s h).symm, fun h => by rw [h]; exact isN_encS _⟩
theorem nv_size (s : ByteArray) (hn : isN s = true) (k : Nat) : s.size ≤ k ↔ nv s < 256 ^ k := by
  have := encS_size_le (nv s) k
  rw [encS_nv s hn] at this; exact this

/-! ### cutting zeros off -/
theorem dv_take_zero (xs : List Nat) (m : Nat) (h : m < xs.length) (hz : xs[m] = 0) : dv (xs.take (m + 1)) = dv (xs.take m) := by
  rw [List.take_succ_eq_append_getElem h, dv_append, hz]; simp [dv]
theorem small_take {xs : List Nat} (h : small xs) (m : Nat) : small (xs.take m) := fun x hx => h x (List.mem_of_mem_take hx)
theorem take_digs (xs : List Nat) (hs : small xs) (m : Nat) (hm : m ≤ xs.length) (hd : dv (xs.take m) = dv xs) (hz : ∀ h : 0 < m, xs[m - 1] ≠ 0) : xs.take m = digs (dv xs) := by
  rw [← hd]
  refine (digs_dv _ (small_take hs m) ?_).symm
  rcases Nat.eq_zero_or_pos m with h0 | h0
  · subst h0; simp
  · rw [List.getLast?_eq_getElem?, List.length_take, Nat.min_eq_left hm, List.getElem?_take, if_pos (by omega)]
    simp [show m - 1 < xs.length by omega, hz h0]

/-! ### comparing digits -/
def cmpN (n m : Nat) : Int := if n < m then -1 else if n = m then 0 else 1
theorem cmpN_lt {n m : Nat} (h : n < m) : cmpN n m = -1 := if_pos h
theorem cmpN_eq {n m : Nat} (h : n = m) : cmpN n m = 0 := by subst h; simp [cmpN]
theorem cmpN_gt {n m : Nat} (h : m < n) : cmpN n m = 1 := by rw [cmpN, if_neg (by omega), if_neg (by omega)]
theorem digs_lt_of_length {n m : Nat} (h : (digs n).length < (digs m).length) : n < m := by
  have h1 := (digs_length_le n (digs n).length).1 (Nat.le_refl _)
  have h2 := digs_length_le m (digs n).length
  have : ¬ m < B32 ^ (digs n).length := fun h3 => by have := h2.2 h3; omega
  omega
theorem dv_drop_take (xs : List Nat) (k : Nat) (h : k ≤ xs.length) : dv xs = dv (xs.take k) + B32 ^ k * dv (xs.drop k) := by
  have := dv_append (xs.take k) (xs.drop k)
  rw [List.take_append_drop, List.length_take, Nat.min_eq_left h] at this
  exact this
theorem dv_drop_succ (xs : List Nat) (k : Nat) (h : k < xs.length) : dv (xs.drop k) = xs[k] + B32 * dv (xs.drop (k + 1)) := by
  rw [List.drop_eq_getElem_cons h, dv]
/-- the most significant digits being the same, the first that differ decide -/
theorem dv_lt_of_digit (xs ys : List Nat) (hx : small xs) (k : Nat) (h1 : k < xs.length) (h2 : k < ys.length) (hd : xs.drop (k + 1) = ys.drop (k + 1)) (hlt : xs[k] < ys[k]) : dv xs < dv ys := by
  rw [dv_drop_take xs k (by omega), dv_drop_take ys k (by omega), dv_drop_succ xs k h1, dv_drop_succ ys k h2, hd]
  have h3 := dv_lt (xs.take k) (small_take hx k)
  rw [List.length_take, Nat.min_eq_left (by omega)] at h3
  generalize dv (ys.drop (k + 1)) = m
  have h4 : B32 ^ k * (xs[k] + B32 * m + 1) ≤ B32 ^ k * (ys[k] + B32 * m) := Nat.mul_le_mul_left _ (by omega)
  rw [Nat.mul_add] at h4
  omega

theorem digs_dgl (V : Nat) : digs V = dgl (digs V).length V := by
  refine (dgl_digs _ _ ((digs_length_le V _).1 (Nat.le_refl _)) fun h => ?_).symm
  have := digs_length_le V ((digs V).length - 1)
  have h2 : ¬ V < B32 ^ ((digs V).length - 1) := fun h3 => by have := this.2 h3; omega
  omega
theorem digs_get (V i : Nat) (h : i < (digs V).length) : (digs V)[i] = V / B32 ^ i % B32 := by
  have h1 := dgl_get (digs V).length V i h
  have h2 : (digs V)[i]? = (dgl (digs V).length V)[i]? := by rw [← digs_dgl]
  rw [List.getElem?_eq_getElem h, List.getElem?_eq_getElem (by rw [dgl_length]; exact h), h1] at h2
  exact Option.some.inj h2
theorem byte_of (V i k : Nat) (hk : k < 4) : V / B32 ^ i % B32 / 2 ^ (8 * k) % 256 = V / 256 ^ (4 * i + k) % 256 := by
  apply Nat.eq_of_testBit_eq
  intro j
  rw [show (256 : Nat) = 2 ^ 8 by simp, Nat.testBit_mod_two_pow, Nat.testBit_mod_two_pow, ← Nat.pow_mul, Nat.testBit_div_two_pow, Nat.testBit_div_two_pow, B32_pow, B32_two, Nat.testBit_mod_two_pow, Nat.testBit_div_two_pow]
  by_cases hj : j < 8
  · have : j + 8 * k < 32 := by omega
    simp only [hj, this, decide_true, Bool.true_and]
    congr 1; omega
  · simp [hj]
/-- the bytes of the number V from the p-th on -/
def top (V p : Nat) : List UInt8 := enc (V / 256 ^ p)
theorem top_zero (V : Nat) : top V 0 = enc V := by simp [top]
theorem top_all (V p : Nat) (h : V < 256 ^ p) : top V p = [] := by rw [top, Nat.div_eq_of_lt h, enc_zero]
theorem top_succ (V p : Nat) : top V p = if (top V (p + 1)).length = 0 ∧ V / 256 ^ p % 256 = 0 then [] else top V (p + 1) ++ [UInt8.ofNat (V / 256 ^ p % 256)] := by
  have e : V / 256 ^ p = V / 256 ^ (p + 1) * 256 + V / 256 ^ p % 256 := by
    rw [Nat.pow_succ, ← Nat.div_div_eq_div_mul]; omega
  have h1 : (top V (p + 1)).length = 0 ↔ V / 256 ^ (p + 1) = 0 := by
    unfold top
    rw [List.length_eq_zero_iff]
    constructor
    · intro h; rw [← val_enc (V / 256 ^ (p + 1)), h]; rfl
    · intro h; rw [h]; rfl
  simp only [h1]
  conv => lhs; unfold top; rw [e]
  rw [enc_step _ _ (Nat.mod_lt _ (by omega))]
  rfl
theorem top_length (V p : Nat) : (top V p).length ≤ (enc V).length := (enc_length_le _ _).2 (Nat.lt_of_le_of_lt (Nat.div_le_self _ _) ((enc_length_le _ _).1 (Nat.le_refl _)))
theorem enc_length_digs (V : Nat) : (enc V).length ≤ 4 * (digs V).length := by
  rw [enc_length_le, two_256, show 8 * (4 * (digs V).length) = 32 * (digs V).length by omega, ← B32_pow]
  exact (digs_length_le _ _).1 (Nat.le_refl _)

theorem norm_len (xs : List Nat) (hs : small xs) (h : 0 < xs.length → B32 ^ (xs.length - 1) ≤ dv xs) : digs (dv xs) = xs := by
  obtain ⟨s1, s2⟩ := trim_split xs hs
  have hl : xs.length ≤ (digs (dv xs)).length := by
    rcases Nat.eq_zero_or_pos xs.length with h0 | h0
    · omega
    · have := h h0
      have h3 := digs_length_le (dv xs) (xs.length - 1)
      omega
  conv => rhs; rw [s1]
  rw [show xs.length - (digs (dv xs)).length = 0 by omega]; simp
theorem digs_ge (n : Nat) (h : 0 < (digs n).length) : B32 ^ ((digs n).length - 1) ≤ n := by
  have := digs_length_le n ((digs n).length - 1)
  have h2 : ¬ n < B32 ^ ((digs n).length - 1) := fun h3 => by have := this.2 h3; omega
  omega
theorem digs_lt (n : Nat) : n < B32 ^ (digs n).length := (digs_length_le n _).1 (Nat.le_refl _)
theorem dv_snoc (xs : List Nat) (d : Nat) : dv (xs ++ [d]) = dv xs + B32 ^ xs.length * d := by rw [dv_append]; simp [dv]
theorem dv_take_succ (xs : List Nat) (k : Nat) (h : k < xs.length) : dv (xs.take (k + 1)) = dv (xs.take k) + B32 ^ k * xs[k] := by
  rw [List.take_succ_eq_append_getElem h, dv_snoc, List.length_take, Nat.min_eq_left (by omega)]
theorem dv_take_getD (xs : List Nat) (k : Nat) : dv (xs.take (k + 1)) = dv (xs.take k) + B32 ^ k * xs.getD k 0 := by
  by_cases h : k < xs.length
  · rw [dv_take_succ xs k h]; simp [List.getD, h]
  · rw [List.take_of_length_le (by omega), List.take_of_length_le (by omega)]; simp [List.getD, List.getElem?_eq_none (by omega : xs.length ≤ k)]
theorem small_snoc {xs : List Nat} {d : Nat} (h : small xs) (hd : d < B32) : small (xs ++ [d]) := by
  intro x hx
  rcases List.mem_append.1 hx with hx | hx
  · exact h x hx
  · simp at hx; omega
theorem getD_lt {xs : List Nat} (h : small xs) (k : Nat) : xs.getD k 0 < B32 := by
  by_cases hk : k < xs.length
  · simp only [List.getD, List.getElem?_eq_getElem hk]; exact h _ (List.getElem_mem _)
  · simp only [List.getD, List.getElem?_eq_none (by omega : xs.length ≤ k)]; show 0 < B32; unfold B32; omega
/-- one digit of a subtraction -/
theorem less_step (R A C : List Nat) (k c c' r : Nat) (hR : R.length = k) (hinv : dv R + dv (C.take k) = dv (A.take k) + c * B32 ^ k) (hr : r + c + C.getD k 0 = A.getD k 0 + c' * B32) :
    dv (R ++ [r]) + dv (C.take (k + 1)) = dv (A.take (k + 1)) + c' * B32 ^ (k + 1) := by
  rw [dv_snoc, dv_take_getD, dv_take_getD, hR, Nat.pow_succ]
  generalize B32 ^ k = p at *
  generalize C.getD k 0 = y at *
  generalize A.getD k 0 = x at *
  have h1 : p * (r + c + y) = p * (x + c' * B32) := by rw [hr]
  rw [Nat.mul_add, Nat.mul_add, Nat.mul_add] at h1
  have e1 : c * p = p * c := Nat.mul_comm _ _
  have e2 : c' * (p * B32) = p * (c' * B32) := by rw [← Nat.mul_assoc, ← Nat.mul_assoc, Nat.mul_comm c' p]
  rw [e2]; omega
theorem less_end (R : List Nat) (n m c : Nat) (hs : small R) (hR : R.length = (digs n).length) (hmn : m ≤ n) (hc : c ≤ 1)
    (hinv : dv R + dv ((digs m).take (digs n).length) = dv ((digs n).take (digs n).length) + c * B32 ^ (digs n).length) : dv R = n - m := by
  have hl : (digs m).length ≤ (digs n).length := (digs_length_le m _).2 (Nat.lt_of_le_of_lt hmn (digs_lt n))
  rw [List.take_of_length_le hl, List.take_length, dv_digs, dv_digs] at hinv
  have h1 := dv_lt R hs
  rw [hR] at h1
  have h2 : c = 0 := by
    rcases Nat.eq_zero_or_pos c with h | h
    · exact h
    · have : c = 1 := by omega
      subst this
      omega
  subst h2; omega
/-- one digit of a doubling -/
theorem double_step (R A : List Nat) (k c b0 : Nat) (hR : R.length = k) (hinv : dv R + c * B32 ^ k = 2 * dv (A.take k) + b0) :
    dv (R ++ [(2 * A.getD k 0 + c) % B32]) + (2 * A.getD k 0 + c) / B32 * B32 ^ (k + 1) = 2 * dv (A.take (k + 1)) + b0 := by
  rw [dv_snoc, dv_take_getD, hR, Nat.pow_succ]
  generalize B32 ^ k = p at *
  generalize A.getD k 0 = x at *
  have h := Nat.mod_add_div (2 * x + c) B32
  generalize (2 * x + c) % B32 = r at *
  generalize (2 * x + c) / B32 = q at *
  have h1 : p * (r + B32 * q) = p * (2 * x + c) := by rw [h]
  rw [Nat.mul_add, Nat.mul_add] at h1
  have e1 : c * p = p * c := Nat.mul_comm _ _
  have e2 : q * (p * B32) = p * (B32 * q) := by rw [Nat.mul_comm B32 q, ← Nat.mul_assoc, ← Nat.mul_assoc, Nat.mul_comm q p]
  have e3 : p * (2 * x) = 2 * (p * x) := by rw [← Nat.mul_assoc, Nat.mul_comm p 2, Nat.mul_assoc]
  rw [e2, Nat.mul_add]; omega
theorem double_end (R : List Nat) (n c b0 : Nat) (hs : small R) (hR : R.length = (digs n).length) (hb : b0 ≤ 1) (hinv : dv R + c * B32 ^ (digs n).length = 2 * n + b0) :
    (if 0 < c then R ++ [c] else R) = digs (2 * n + b0) ∧ c ≤ 1 := by
  have hlt := digs_lt n
  have hc : c ≤ 1 := by
    rcases Nat.lt_or_ge c 2 with h | h
    · omega
    · have : 2 * B32 ^ (digs n).length ≤ c * B32 ^ (digs n).length := Nat.mul_le_mul_right _ h
      omega
  refine ⟨?_, hc⟩
  by_cases h0 : 0 < c
  · have : c = 1 := by omega
    subst this
    rw [if_pos h0, ← hinv, Nat.one_mul]
    have e : dv R + B32 ^ (digs n).length = dv (R ++ [1]) := by rw [dv_snoc, hR, Nat.mul_one]
    rw [e]
    refine (digs_dv _ (small_snoc hs (by unfold B32; omega)) (by simp)).symm
  · have : c = 0 := by omega
    subst this
    rw [if_neg (by omega)]
    have hd : dv R = 2 * n + b0 := by omega
    rw [← hd]
    refine (norm_len R hs fun hp => ?_).symm
    have := digs_ge n (by omega)
    rw [hR]; omega

theorem bit_of (V p : Nat) : V / B32 ^ (p / 32) % B32 / 2 ^ (p % 32) % 2 = V / 2 ^ p % 2 := by
  apply Nat.eq_of_testBit_eq
  intro j
  rw [show (2 : Nat) = 2 ^ 1 by simp, Nat.testBit_mod_two_pow, Nat.testBit_mod_two_pow, show (2 ^ 1 : Nat) = 2 by simp, Nat.testBit_div_two_pow, Nat.testBit_div_two_pow, B32_pow, B32_two, Nat.testBit_mod_two_pow, Nat.testBit_div_two_pow]
  by_cases hj : j < 1
  · have : j + p % 32 < 32 := by omega
    simp only [hj, this, decide_true, Bool.true_and]
    congr 1; omega
  · simp [hj]

/-! ### long division, bit by bit -/
abbrev BitAt (N : Nat) : Type := { p : Nat × Nat // (0 < N → p.1 < N) ∧ p.2 ≤ 1 }
def bitAt (V N i : Nat) : BitAt N := ⟨(N - 1 - i, V / 2 ^ (N - 1 - i) % 2), fun h => by show N - 1 - i < N; omega, by show V / 2 ^ (N - 1 - i) % 2 ≤ 1; omega⟩
/-- what has come when j rounds are over -/
def bitsUpto (V N j : Nat) : List (BitAt N) := (List.range j).map (bitAt V N)
theorem bitsUpto_succ (V N j : Nat) : bitsUpto V N (j + 1) = bitsUpto V N j ++ [bitAt V N j] := by simp [bitsUpto, List.range_succ]
theorem bitsUpto_length (V N j : Nat) : (bitsUpto V N j).length = j := by simp [bitsUpto]
def divStep (m : Nat) (s : Nat × Nat) (at_ b : Nat) : Nat × Nat :=
  if m ≤ 2 * s.2 + b then (s.1 ||| (1 <<< at_), 2 * s.2 + b - m) else (s.1, 2 * s.2 + b)
/-- quotient so far, remainder so far -/
def divSt (m : Nat) {N : Nat} (pre : List (BitAt N)) : Nat × Nat := pre.foldl (fun s x => divStep m s x.1.1 x.1.2) (0, 0)
theorem divSt_snoc (m : Nat) {N : Nat} (pre : List (BitAt N)) (x : BitAt N) : divSt m (pre ++ [x]) = divStep m (divSt m pre) x.1.1 x.1.2 := by simp [divSt]
theorem divSt_nil (m : Nat) {N : Nat} : divSt m ([] : List (BitAt N)) = (0, 0) := rfl
theorem divSt_lt (m : Nat) (hm : 0 < m) {N : Nat} : ∀ pre : List (BitAt N), (divSt m pre).2 < m := by
  refine snoc_rec ?_ ?_
  · rw [divSt_nil]; exact hm
  · intro pre x ih
    have := x.2.2
    rw [divSt_snoc, divStep]
    split
    · show 2 * (divSt m pre).2 + x.1.2 - m < m; omega
    · show 2 * (divSt m pre).2 + x.1.2 < m; omega
theorem divSt_upto (n m N : Nat) (hm : 0 < m) (hn : n < 2 ^ N) : ∀ j, j ≤ N → divSt m (bitsUpto n N j) = ((n / 2 ^ (N - j) / m) <<< (N - j), n / 2 ^ (N - j) % m) := by
  intro j
  induction j with
  | zero =>
    intro _
    rw [Nat.sub_zero, Nat.div_eq_of_lt hn]
    simp [bitsUpto, divSt]
  | succ j ih =>
    intro hj
    rw [bitsUpto_succ, divSt_snoc, ih (by omega)]
    obtain ⟨p, hp⟩ : ∃ p, p = N - 1 - j := ⟨_, rfl⟩
    have e1 : N - j = p + 1 := by omega
    have e2 : N - (j + 1) = p := by omega
    rw [e1, e2]
    unfold divStep bitAt
    simp only [← hp]
    obtain ⟨M, hM⟩ : ∃ M, M = n / 2 ^ p := ⟨_, rfl⟩
    have e3 : n / 2 ^ (p + 1) = M / 2 := by rw [Nat.pow_succ, ← Nat.div_div_eq_div_mul, hM]
    rw [e3, ← hM]
    have e4 : M = 2 * (M / 2) + M % 2 := by omega
    have h1 := Nat.div_add_mod (M / 2) m
    have h2 := Nat.mod_lt (M / 2) hm
    generalize M / 2 / m = Q at *
    generalize M / 2 % m = r at *
    have e5 : M = 2 * (m * Q) + (2 * r + M % 2) := by omega
    have h3 : M % 2 ≤ 1 := by omega
    generalize hb : M % 2 = b at *
    have e6 : 2 * (m * Q) = m * (2 * Q) := by rw [← Nat.mul_assoc, Nat.mul_comm 2 m, Nat.mul_assoc]
    split
    · rename_i hle
      have e7 : M = m * (2 * Q + 1) + (2 * r + b - m) := by rw [Nat.mul_add]; omega
      have e8 : M / m = 2 * Q + 1 := by rw [e7, Nat.mul_add_div hm, Nat.div_eq_of_lt (by omega), Nat.add_zero]
      have e9 : M % m = 2 * r + b - m := by rw [e7, Nat.mul_add_mod, Nat.mod_eq_of_lt (by omega)]
      rw [e8, e9]
      congr 1
      rw [show p + 1 = 1 + p by omega, Nat.shiftLeft_add, ← Nat.shiftLeft_or_distrib]
      congr 1
      have h := Nat.shiftLeft_add_eq_or_of_lt (show 1 < 2 ^ 1 by omega) Q
      rw [← h, Nat.shiftLeft_eq]; omega
    · rename_i hle
      have e8 : M / m = 2 * Q := by rw [e5, e6, Nat.mul_add_div hm, Nat.div_eq_of_lt (by omega), Nat.add_zero]
      have e9 : M % m = 2 * r + b := by rw [e5, e6, Nat.mul_add_mod, Nat.mod_eq_of_lt (by omega)]
      rw [e8, e9, show p + 1 = 1 + p by omega, Nat.shiftLeft_add, Nat.shiftLeft_eq Q 1, show Q * 2 ^ 1 = 2 * Q by omega]
theorem divSt_all (n m N : Nat) (hm : 0 < m) (hn : n < 2 ^ N) : divSt m (bitsUpto n N N) = (n / m, n % m) := by
  rw [divSt_upto n m N hm hn N (Nat.le_refl _), Nat.sub_self]
  simp

theorem digs_twice (x m k : Nat) (h : (digs m).length ≤ k) (hx : x < 2 * m) : (digs x).length ≤ k + 1 := by
  rw [digs_length_le] at h ⊢
  rw [Nat.pow_succ]
  generalize B32 ^ k = X at h
  have : X * 2 ≤ X * B32 := Nat.mul_le_mul_left _ (by unfold B32; omega)
  omega

/-! ### what the functions hand back -/
def bE : ByteArray := ⟨#[]⟩
def chkN (ss : List ByteArray) : Int := if ss.all isN then if ss.all (fun s => decide (s.size ≤ 256)) then 0 else 2 else 60
def shortN (n : Nat) : ByteArray × Int := if (encS n).size ≤ 256 then (encS n, 0) else (bE, 2)
def ofF (n : Int) : ByteArray × Int := if n < 0 then (bE, 1) else (encS n.toNat, 0)
def intF (s : ByteArray) : Int × Bool := if isN s = true ∧ s.size ≤ 8 ∧ nv s < 9223372036854775808 then ((nv s : Int), true) else (0, false)
def cmpF (a b : ByteArray) : Int × Int := if chkN [a, b] = 0 then (cmpN (nv a) (nv b), 0) else (0, chkN [a, b])
def addF (a b : ByteArray) : ByteArray × Int := if chkN [a, b] = 0 then shortN (nv a + nv b) else (bE, chkN [a, b])
def subF (a b : ByteArray) : ByteArray × Int := if chkN [a, b] = 0 then if nv a < nv b then (bE, 1) else (encS (nv a - nv b), 0) else (bE, chkN [a, b])
def mulF (a b : ByteArray) : ByteArray × Int := if chkN [a, b] = 0 then shortN (nv a * nv b) else (bE, chkN [a, b])
def divF (a b : ByteArray) : ByteArray × ByteArray × Int := if chkN [a, b] = 0 then if nv b = 0 then (bE, bE, 71) else (encS (nv a / nv b), encS (nv a % nv b), 0) else (bE, bE, chkN [a, b])
def gcdF (a b : ByteArray) : ByteArray × Int := if chkN [a, b] = 0 then (encS (Nat.gcd (nv a) (nv b)), 0) else (bE, chkN [a, b])
theorem chk2_zero {a b : ByteArray} (h : chkN [a, b] = 0) : isN a = true ∧ isN b = true ∧ a.size ≤ 256 ∧ b.size ≤ 256 := by
  unfold chkN at h
  split at h
  · rename_i h1
    split at h
    · rename_i h2
      simp only [List.all_cons, List.all_nil, Bool.and_true, Bool.and_eq_true, decide_eq_true_eq] at h1 h2
      exact ⟨h1.1, h1.2, h2.1, h2.2⟩
    · cases h
  · cases h
theorem chk2_of {a b : ByteArray} (h1 : isN a = true) (h2 : isN b = true) (h3 : a.size ≤ 256) (h4 : b.size ≤ 256) : chkN [a, b] = 0 := by
  simp [chkN, h1, h2, h3, h4]
theorem digs_of_size4 {a : ByteArray} (k : Nat) (h : a.size ≤ 4 * k) : (digs (nv a)).length ≤ k := by
  rw [digs_length_le, B32_pow]
  refine Nat.lt_of_lt_of_le (nv_lt a) ?_
  rw [two_256]
  exact Nat.pow_le_pow_right (by omega) (by omega)
theorem digs_of_size {a : ByteArray} (h : a.size ≤ 256) : (digs (nv a)).length ≤ 64 := digs_of_size4 64 h
theorem digs_len_mono {a b : Nat} (h : a ≤ b) : (digs a).length ≤ (digs b).length := (digs_length_le _ _).2 (Nat.lt_of_le_of_lt h (digs_lt b))
/-- one digit of a sum -/
theorem add_step (R A C : List Nat) (k c : Nat) (hR : R.length = k) (hinv : dv R + c * B32 ^ k = dv (A.take k) + dv (C.take k)) :
    dv (R ++ [(c + A.getD k 0 + C.getD k 0) % B32]) + (c + A.getD k 0 + C.getD k 0) / B32 * B32 ^ (k + 1) = dv (A.take (k + 1)) + dv (C.take (k + 1)) := by
  rw [dv_snoc, dv_take_getD, dv_take_getD, hR, Nat.pow_succ]
  generalize B32 ^ k = p at *
  generalize A.getD k 0 = x at *
  generalize C.getD k 0 = y at *
  have h := Nat.mod_add_div (c + x + y) B32
  generalize (c + x + y) % B32 = r at *
  generalize (c + x + y) / B32 = q at *
  have h1 : p * (r + B32 * q) = p * (c + x + y) := by rw [h]
  rw [Nat.mul_add, Nat.mul_add, Nat.mul_add] at h1
  have e1 : c * p = p * c := Nat.mul_comm _ _
  have e2 : q * (p * B32) = p * (B32 * q) := by rw [Nat.mul_comm B32 q, ← Nat.mul_assoc, ← Nat.mul_assoc, Nat.mul_comm q p]
  rw [e2]; omega

theorem dv_set : ∀ (L : List Nat) (p v : Nat) (h : p < L.length), dv (L.set p v) + B32 ^ p * L[p] = dv L + B32 ^ p * v
  | d :: L, 0, v, _ => by simp only [List.set_cons_zero, dv, List.getElem_cons_zero, Nat.pow_zero, Nat.one_mul]; omega
  | d :: L, p + 1, v, h => by
    have h' : p < L.length := by simpa using h
    have ih := dv_set L p v h'
    simp only [List.set_cons_succ, dv, List.getElem_cons_succ, Nat.pow_succ]
    have e : ∀ q : Nat, B32 ^ p * B32 * q = B32 * (B32 ^ p * q) := fun q => by rw [Nat.mul_comm (B32 ^ p), Nat.mul_assoc]
    rw [e, e]
    have h2 : B32 * (dv (L.set p v) + B32 ^ p * L[p]) = B32 * (dv L + B32 ^ p * v) := by rw [ih]
    rw [Nat.mul_add, Nat.mul_add] at h2
    omega
theorem small_set {L : List Nat} {p v : Nat} (h : small L) (hv : v < B32) : small (L.set p v) := by
  intro x hx
  rcases List.mem_or_eq_of_mem_set hx with hx | hx
  · exact h x hx
  · omega
/-- one digit of a product: the inner round -/
theorem mul_step (L Y : List Nat) (S i j x o : Nat) (hp : i + j < L.length) (hj : j < Y.length) (hI : dv L + o * B32 ^ (i + j) = S + x * B32 ^ i * dv (Y.take j)) :
    dv (L.set (i + j) ((o + (L[i + j] + x * Y[j])) % B32)) + (o + (L[i + j] + x * Y[j])) / B32 * B32 ^ (i + (j + 1)) = S + x * B32 ^ i * dv (Y.take (j + 1)) := by
  have h1 := dv_set L (i + j) ((o + (L[i + j] + x * Y[j])) % B32) hp
  have h2 := Nat.mod_add_div (o + (L[i + j] + x * Y[j])) B32
  rw [dv_take_succ Y j hj, show i + (j + 1) = i + j + 1 by omega, Nat.pow_succ, Nat.mul_add]
  have e2 : x * B32 ^ i * (B32 ^ j * Y[j]) = B32 ^ (i + j) * (x * Y[j]) := by
    rw [Nat.pow_add, Nat.mul_comm x, Nat.mul_assoc, Nat.mul_assoc, Nat.mul_left_comm x]
  rw [e2]
  generalize x * B32 ^ i * dv (Y.take j) = T at *
  generalize B32 ^ (i + j) = p at *
  generalize L[i + j] = l at *
  generalize x * Y[j] = t at *
  generalize (o + (l + t)) % B32 = r at *
  generalize (o + (l + t)) / B32 = q at *
  have h3 : p * (r + B32 * q) = p * (o + (l + t)) := by rw [h2]
  rw [Nat.mul_add, Nat.mul_add, Nat.mul_add] at h3
  have e3 : q * (p * B32) = p * (B32 * q) := by rw [Nat.mul_comm B32 q, ← Nat.mul_assoc, ← Nat.mul_assoc, Nat.mul_comm q p]
  have e4 : o * p = p * o := Nat.mul_comm _ _
  rw [e3]
  omega
/-- the end of an inner loop -/
theorem mul_end (L X Y : List Nat) (i o : Nat) (hX : small X) (hY : small Y) (hi : i < X.length) (hp : i + Y.length < L.length)
    (hI : dv L + o * B32 ^ (i + Y.length) = dv (X.take i) * dv Y + X[i] * B32 ^ i * dv Y) :
    dv (L.set (i + Y.length) (L[i + Y.length] + o)) = dv (X.take (i + 1)) * dv Y ∧ L[i + Y.length] + o < B32 := by
  have h1 := dv_set L (i + Y.length) (L[i + Y.length] + o) hp
  have e1 : dv (X.take (i + 1)) * dv Y = dv (X.take i) * dv Y + X[i] * B32 ^ i * dv Y := by
    rw [dv_take_succ X i hi, Nat.add_mul, Nat.mul_comm (B32 ^ i)]
  have e2 : dv L + o * B32 ^ (i + Y.length) = dv (X.take (i + 1)) * dv Y := by rw [hI, e1]
  refine ⟨by rw [Nat.mul_add] at h1; rw [← e2, Nat.mul_comm o]; omega, ?_⟩
  have h2 := dv_lt (X.take (i + 1)) (small_take hX _)
  rw [List.length_take, Nat.min_eq_left (by omega)] at h2
  have h3 := dv_lt Y hY
  have h4 : dv (X.take (i + 1)) * dv Y < B32 ^ (i + 1) * B32 ^ Y.length := by
    have hpos : 0 < B32 ^ (i + 1) := Nat.pow_pos (by unfold B32; omega)
    have a1 : dv (X.take (i + 1)) * dv Y ≤ dv (X.take (i + 1)) * B32 ^ Y.length := Nat.mul_le_mul_left _ (by omega)
    have a2 : dv (X.take (i + 1)) * B32 ^ Y.length < B32 ^ (i + 1) * B32 ^ Y.length := (Nat.mul_lt_mul_right (Nat.pow_pos (by unfold B32; omega))).2 h2
    omega
  rw [← e2] at h4
  have e5 : B32 ^ (i + 1) * B32 ^ Y.length = B32 ^ (i + Y.length) * B32 := by
    rw [← Nat.pow_add, show i + 1 + Y.length = i + Y.length + 1 by omega, Nat.pow_succ]
  rw [e5, dv_drop_take L (i + Y.length) (by omega), dv_drop_succ L (i + Y.length) hp] at h4
  generalize B32 ^ (i + Y.length) = p at *
  generalize L[i + Y.length] = l at *
  have h5 : p * (l + o) < p * B32 := by
    have e6 : o * p = p * o := Nat.mul_comm _ _
    rw [e6, Nat.mul_add] at h4
    rw [Nat.mul_add]
    omega
  exact Nat.lt_of_mul_lt_mul_left h5

end Go.Proofs.Ytieapjdabffjcaa.Nm
