/- Plain laws: the code of a line, as a specification on natural numbers. -/
import Derived.Test.YtlfolinjajjgjaaDoorP0
namespace Go.Proofs.YtlfolinjajjgjaaDoor

/-! The set bits of a word, from the least on -/

def bitsL (x : Nat) : List Nat := (List.range 40).filter fun i => x.testBit i

theorem least_bit {x : Nat} (h0 : x ≠ 0) : ∃ t m, x = 2 ^ (t + 1) * m + 2 ^ t := by
  induction x using Nat.strongRecOn with
  | _ x ih =>
    by_cases hodd : x % 2 = 1
    · exact ⟨0, x / 2, by omega⟩
    · obtain ⟨t, m, h⟩ := ih (x / 2) (by omega) (by omega)
      refine ⟨t + 1, m, ?_⟩
      have : x = 2 * (x / 2) := by omega
      rw [this, h, Nat.mul_add, ← Nat.mul_assoc, ← Nat.pow_succ', ← Nat.pow_succ']

theorem testBit_form (t m i : Nat) : (2 ^ (t + 1) * m + 2 ^ t).testBit i = if i < t + 1 then decide (i = t) else m.testBit (i - (t + 1)) := by
  rw [Nat.testBit_two_pow_mul_add _ (Nat.pow_lt_pow_right (by omega) (by omega))]
  split
  · rw [Nat.testBit_two_pow]; simp [eq_comm]
  · rfl

theorem testBit_form_pred (t m i : Nat) : (2 ^ (t + 1) * m + 2 ^ t - 1).testBit i = if i < t + 1 then decide (i < t) else m.testBit (i - (t + 1)) := by
  have hp := Nat.two_pow_pos t
  have h2 : 2 ^ (t + 1) = 2 * 2 ^ t := Nat.pow_succ'
  rw [Nat.add_sub_assoc hp, Nat.testBit_two_pow_mul_add _ (by omega)]
  split
  · rw [Nat.testBit_two_pow_sub_one]
  · rfl

theorem clear_least (t m i : Nat) : ((2 ^ (t + 1) * m + 2 ^ t) &&& (2 ^ (t + 1) * m + 2 ^ t - 1)).testBit i = ((2 ^ (t + 1) * m + 2 ^ t).testBit i && decide (i ≠ t)) := by
  rw [Nat.testBit_and, testBit_form, testBit_form_pred]
  by_cases h : i < t + 1
  · simp only [if_pos h]
    by_cases h1 : i = t
    · simp [h1]
    · simp [h1]
  · simp only [if_neg h]
    have : i ≠ t := by omega
    simp [this]

theorem form_lt {t m n : Nat} (h : 2 ^ (t + 1) * m + 2 ^ t < 2 ^ n) : t < n := by
  have : 2 ^ t < 2 ^ n := by omega
  exact (Nat.pow_lt_pow_iff_right (by omega)).1 this

/-- The number of the least set bit. -/
def ctzN (x : Nat) : Nat := (bitsL x).headD 40

theorem range_split (t n : Nat) (h : t < n) : List.range n = List.range t ++ t :: (List.range' (t + 1) (n - t - 1)) := by
  rw [List.range_eq_range', List.range_eq_range']
  have : n = t + (n - t) := by omega
  conv => lhs; rw [this, ← List.range'_append_1]
  congr 1
  have : n - t = (n - t - 1) + 1 := by omega
  rw [this, List.range'_succ]
  simp

theorem bitsL_form (t m : Nat) (h : t < 40) : bitsL (2 ^ (t + 1) * m + 2 ^ t) = t :: bitsL ((2 ^ (t + 1) * m + 2 ^ t) &&& (2 ^ (t + 1) * m + 2 ^ t - 1)) := by
  unfold bitsL
  rw [range_split t 40 h]
  simp only [List.filter_append, List.filter_cons, clear_least]
  have e1 : (List.range t).filter (fun i => (2 ^ (t + 1) * m + 2 ^ t).testBit i) = [] := by
    rw [List.filter_eq_nil_iff]
    intro i hi
    have hi := List.mem_range.1 hi
    rw [testBit_form, if_pos (by omega)]
    simp; omega
  have e2 : (List.range t).filter (fun i => (2 ^ (t + 1) * m + 2 ^ t).testBit i && decide (i ≠ t)) = [] := by
    rw [List.filter_eq_nil_iff]
    intro i hi
    have hi := List.mem_range.1 hi
    rw [testBit_form, if_pos (by omega)]
    simp
  have e3 : (2 ^ (t + 1) * m + 2 ^ t).testBit t = true := by rw [testBit_form]; simp
  rw [e1, e2]
  simp only [e3, List.nil_append, if_true, ne_eq, not_true, decide_false, Bool.and_false, Bool.false_eq_true, if_false]
  congr 1
  apply List.filter_congr
  intro i hi
  have := List.mem_range'_1.1 hi
  have : i ≠ t := by omega
  simp [this]

theorem bitsL_step {x : Nat} (h0 : x ≠ 0) (h : x < 2 ^ 40) : bitsL x = ctzN x :: bitsL (x &&& (x - 1)) := by
  obtain ⟨t, m, rfl⟩ := least_bit h0
  have ht := form_lt h
  have := bitsL_form t m ht
  unfold ctzN
  rw [this]
  rfl

theorem ctz_lt {x : Nat} (h0 : x ≠ 0) (h : x < 2 ^ 40) : ctzN x < 40 := by
  obtain ⟨t, m, rfl⟩ := least_bit h0
  have ht := form_lt h
  unfold ctzN
  rw [bitsL_form t m ht]
  exact ht

theorem bitsL_zero : bitsL 0 = [] := by decide

theorem and_pred_lt {x : Nat} (h0 : x ≠ 0) : x &&& (x - 1) < x := Nat.lt_of_le_of_lt Nat.and_le_right (by omega)

/-- x & -x. -/
theorem low_bit {x : Nat} (h0 : x ≠ 0) (h : x < 2 ^ 40) : x &&& (2 ^ 64 - x) = 2 ^ ctzN x := by
  obtain ⟨t, m, rfl⟩ := least_bit h0
  have ht := form_lt h
  have hc : ctzN (2 ^ (t + 1) * m + 2 ^ t) = t := by unfold ctzN; rw [bitsL_form t m ht]; rfl
  rw [hc]
  have hp := Nat.two_pow_pos t
  have h2 : 2 ^ (t + 1) = 2 * 2 ^ t := Nat.pow_succ'
  have h64 : 2 ^ 64 = 2 ^ (t + 1) * 2 ^ (63 - t) := by rw [← Nat.pow_add]; congr 1; omega
  have hm : m < 2 ^ (63 - t) := by
    have : 2 ^ (t + 1) * m < 2 ^ (t + 1) * 2 ^ (63 - t) := by rw [← h64]; omega
    exact Nat.lt_of_mul_lt_mul_left this
  have hneg : 2 ^ 64 - (2 ^ (t + 1) * m + 2 ^ t) = 2 ^ (t + 1) * (2 ^ (63 - t) - (m + 1)) + 2 ^ t := by
    rw [h64, Nat.mul_sub, Nat.mul_add, Nat.mul_one]
    have : 2 ^ (t + 1) * (m + 1) ≤ 2 ^ (t + 1) * 2 ^ (63 - t) := Nat.mul_le_mul_left _ hm
    rw [Nat.mul_add, Nat.mul_one] at this
    omega
  rw [hneg]
  apply Nat.eq_of_testBit_eq
  intro i
  rw [Nat.testBit_and, testBit_form, testBit_form, Nat.testBit_two_pow]
  by_cases hi : i < t + 1
  · simp only [if_pos hi, Bool.and_self]
    simp [eq_comm]
  · simp only [if_neg hi]
    have hne : t ≠ i := by omega
    rw [Nat.testBit_two_pow_sub_succ hm]
    simp only [hne, decide_false, Bool.and_eq_false_imp]
    intro h1
    simp [h1]

/-! Positions -/

def lenN (n : Nat) : Nat := if n = 0 then 0 else Nat.log2 n + 1

def posN (i : Nat) : Nat := if lenN (i + 1) < lenN (i + 1 + lenN (i + 1)) then i + 1 + lenN (i + 1) + 1 else i + 1 + lenN (i + 1)

theorem posN_lt : ∀ i, i < 320 → posN i < 512 := by decide +kernel

/-! The syndrome -/

def synStep (k : Nat) (acc : Nat × Nat) (b : Nat) : Nat × Nat := (acc.1 ^^^ posN (40 * k + b), acc.2 + 1)

def synW (k x : Nat) (acc : Nat × Nat) : Nat × Nat := (bitsL x).foldl (synStep k) acc

theorem synW_step {k x : Nat} {acc : Nat × Nat} (h0 : x ≠ 0) (h : x < 2 ^ 40) : synW k x acc = synW k (x &&& (x - 1)) (synStep k acc (ctzN x)) := by
  unfold synW
  rw [bitsL_step h0 h]
  rfl

theorem synW_zero (k : Nat) (acc : Nat × Nat) : synW k 0 acc = acc := by unfold synW; rw [bitsL_zero]; rfl

/-- The syndrome of the first k words. -/
def synTo (ws : List Nat) : Nat → Nat × Nat
  | 0 => (0, 0)
  | k + 1 => synW k (ws.getD k 0) (synTo ws k)

def syn (ws : List Nat) : Nat × Nat := synTo ws 8

theorem xor_lt512 {a b : Nat} (ha : a < 512) (hb : b < 512) : a ^^^ b < 512 := Nat.xor_lt_two_pow (n := 9) ha hb

theorem synW_bd {k : Nat} (hk : k < 8) : ∀ (l : List Nat) (acc : Nat × Nat), (∀ b ∈ l, b < 40) → acc.1 < 512 → (l.foldl (synStep k) acc).1 < 512 ∧ (l.foldl (synStep k) acc).2 = acc.2 + l.length := by
  intro l
  induction l with
  | nil => intro acc _ h; exact ⟨h, rfl⟩
  | cons b r ih =>
    intro acc hb h
    have hb0 := hb b (by simp)
    have := ih (synStep k acc b) (fun c hc => hb c (by simp [hc])) (xor_lt512 h (posN_lt _ (by omega)))
    refine ⟨this.1, ?_⟩
    rw [List.foldl_cons, this.2]
    simp only [synStep, List.length_cons]
    omega

theorem bitsL_mem {x b : Nat} (h : b ∈ bitsL x) : b < 40 := List.mem_range.1 (List.mem_filter.1 h).1
theorem bitsL_len (x : Nat) : (bitsL x).length ≤ 40 := by
  have := List.length_filter_le (fun i => x.testBit i) (List.range 40)
  simpa [bitsL] using this

theorem synTo_bd (ws : List Nat) : ∀ k, k ≤ 8 → (synTo ws k).1 < 512 ∧ (synTo ws k).2 ≤ 40 * k := by
  intro k
  induction k with
  | zero => intro _; simp [synTo]
  | succ k ih =>
    intro hk
    obtain ⟨h1, h2⟩ := ih (by omega)
    have := synW_bd (k := k) (by omega) (bitsL (ws.getD k 0)) (synTo ws k) (fun b hb => bitsL_mem hb) h1
    have hl := bitsL_len (ws.getD k 0)
    refine ⟨this.1, ?_⟩
    show (synW k (ws.getD k 0) (synTo ws k)).2 ≤ _
    unfold synW
    omega

/-! The code -/

def onesN (n : Nat) : Nat := ((List.range 10).filter fun i => n.testBit i).length

def enc (ws : List Nat) : Nat := if ((syn ws).2 + onesN (syn ws).1) % 2 = 1 then (syn ws).1 ||| 512 else (syn ws).1

theorem enc_lt (ws : List Nat) : enc ws < 1024 := by
  have := (synTo_bd ws 8 (by omega)).1
  unfold enc syn
  split
  · exact Nat.or_lt_two_pow (n := 10) (by omega) (by decide)
  · omega

structure St where
  state : Nat
  word : Nat
  bit : Nat
  deriving DecidableEq

/-- What Check returns. -/
def chk (ws : List Nat) (code : Nat) : St :=
  let s := (syn ws).1 ^^^ (code &&& 511)
  if ((syn ws).2 + onesN code) % 2 = 1 then
    if s = 0 then ⟨1, 8, 9⟩
    else if s &&& (s - 1) = 0 then ⟨1, 8, ctzN s⟩
    else match (List.range 320).find? (fun i => posN i == s) with
      | some i => ⟨1, i / 40, i % 40⟩
      | none => ⟨2, 0, 0⟩
  else if s = 0 then ⟨0, 0, 0⟩ else ⟨2, 0, 0⟩

def flip (ws : List Nat) (code : Nat) (st : St) : List Nat × Nat :=
  if st.word = 8 then (ws, code ^^^ 2 ^ st.bit) else (ws.set st.word (ws.getD st.word 0 ^^^ 2 ^ st.bit), code)

/-- What Fix returns; none: rotten. -/
def fix (ws : List Nat) (code : Nat) : Option (List Nat × Nat) :=
  match (chk ws code).state with
  | 0 => some (ws, code)
  | 1 => some (flip ws code (chk ws code))
  | _ => none

theorem ones_512 : ∀ s, s < 512 → onesN (s ||| 512) = onesN s + 1 ∧ (s ||| 512) &&& 511 = s ∧ s &&& 511 = s := by decide +kernel

theorem chk_enc (ws : List Nat) : chk ws (enc ws) = ⟨0, 0, 0⟩ := by
  have hs := (synTo_bd ws 8 (by omega)).1
  obtain ⟨h1, h2, h3⟩ := ones_512 _ hs
  have e : (syn ws).1 = (synTo ws 8).1 := rfl
  unfold chk enc
  rw [← e] at h1 h2 h3
  by_cases hp : ((syn ws).2 + onesN (syn ws).1) % 2 = 1
  · simp only [if_pos hp, h1, h2, Nat.xor_self]
    rw [if_neg (by omega)]
    simp
  · simp only [if_neg hp, h3, Nat.xor_self]
    simp

theorem fix_enc (ws : List Nat) : fix ws (enc ws) = some (ws, enc ws) := by unfold fix; rw [chk_enc]; rfl

end Go.Proofs.YtlfolinjajjgjaaDoor
