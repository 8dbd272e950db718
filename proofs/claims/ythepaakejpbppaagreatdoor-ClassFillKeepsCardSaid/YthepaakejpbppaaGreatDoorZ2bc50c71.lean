/- Part 2 of the proof: P1, P2, P3, P4, P5, P6, M0, M1, M2, M3, M4, M5, M6, M7, S0, S1, Q0, Q1, Q2, Q3 -/
import Derived.Test.YthepaakejpbppaaGreatDoorZ7b77601f

/- Contracts of the small functions (pointer, words). -/
namespace Go.Proofs.YthepaakejpbppaaGreatDoor
open Go.E

theorem w64 {x : Int} (h : -9223372036854775808 ≤ x ∧ x ≤ 9223372036854775807) : IntKind.i64.wrap x = x := IntWalk.i64_in x h

theorem call {f : Nat} {args : Array Value} {w : World} {Φ K : Value → World → Prop} (h : Calls cx.P f args w (Ret Φ)) (k : ∀ v w', Φ v w' → K v w') : CallP cx.P f args w K := Ret.imp h k

theorem pointer_word_calls (x : Int) (w : World) : Calls cx.P 115 #[.int .i64 x] w (Ret fun v w' => v = .bool (decide (0 ≤ x ∧ x ≤ 1099511627775)) ∧ w = w') := by
  refine calls_body cx_ok (args := [.int .i64 x]) Tryz.func115 rfl 9 rfl rfl [.tmp 2] rfl ?_
  refine ⟨fun h0 => ⟨fun h1 => ?_, fun h1 => ?_⟩, fun h0 => ?_⟩
  · exact ⟨by simp [h0, h1], rfl⟩
  · exact ⟨by simp [h1], rfl⟩
  · exact ⟨by simp [h0], rfl⟩

theorem of_calls (p : Int) (w : World) : Calls cx.P 114 #[.int .i64 p] w (Ret fun v w' => Tr [] w w' ∧ ∃ b, v = .func (.func 143) #[] #[.pointer (some ⟨b, 0, none⟩)] ∧ Blk w' b [.int .i64 p] 3) := by
  refine calls_body cx_ok (args := [.int .i64 p]) Tryz.func114 rfl 4 rfl rfl [.tmp 2] rfl ?_
  intro b w1 n1
  exact ⟨n1.tr, b, rfl, n1.blk⟩

def part (p n k : Nat) : Nat := (p / 2 ^ n) % 2 ^ k

theorem of1_calls (p n k b : Nat) (w : World) (hb : Blk w b [.int .i64 p] 3) (hp : p < 2 ^ 63) (hn : n ≤ 64) (hk : k < 63) :
    Calls cx.P 143 #[.agg #[.int .i64 n, .int .i64 k], .pointer (some ⟨b, 0, none⟩)] w (Ret fun v w' => v = .int .i64 (part p n k : Nat) ∧ Tr [] w w') := by
  refine calls_body cx_ok (args := [.agg #[.int .i64 n, .int .i64 k], .pointer (some ⟨b, 0, none⟩)]) Tryz.func143 rfl 13 rfl rfl [.tmp 3] rfl ?_
  intro b2 w1 n1
  refine draw_rule cx_ok [] (Plan.takes [0, 1, 2, 3, 4, 5, 6, 7, 8, 9] .done) (by kernel_rfl) ?_
  intro w2 d
  have hb1 := hb.ext n1.tr
  have h2 : 2 ^ k < 2 ^ 63 := Nat.pow_lt_pow_right (by omega) hk
  have hpos : 0 < 2 ^ k := Nat.two_pow_pos k
  have hdiv : p / 2 ^ n < 2 ^ 63 := Nat.lt_of_le_of_lt (Nat.div_le_self _ _) hp
  refine ⟨_, fun w' t => t.cell (hb1.cell rfl) (by simp), _, fun w' t => t.cell (n1.blk.cell rfl) (by simp), _, by omega, shr_nat .i64 p n hn, ?_⟩
  refine ⟨_, fun w' t => t.cell (n1.blk.cell rfl) (by simp), _, by omega, shl_nat 1 k (by omega) (by omega), ((2 ^ k - 1 : Nat) : Int), ?_, _, bits_and _ _ hdiv (by omega), ?_⟩
  · rw [w64] <;> omega
  · exact ⟨by rw [and_mask]; rfl, n1.tr.ext d.tr⟩

def tab64 : List Nat := [0, 1, 56, 2, 57, 49, 28, 3, 61, 58, 42, 50, 38, 29, 17, 4, 62, 47, 59, 36, 45, 43, 51, 22, 53, 39, 33, 30, 24, 18, 12, 5, 63, 55, 48, 27, 60, 41, 37, 16, 46, 35, 44, 21, 52, 32, 23, 11, 54, 26, 40, 15, 34, 20, 31, 10, 25, 14, 19, 9, 13, 8, 7, 6]

/-- The tables stand as the program's text lays them. -/
structure Gl (w : World) : Prop where
  ptrs : Cells w 0 0 [.int .i64 0, .int .i64 12, .int .i64 12, .int .i64 20]
  hdr : Cells w 1 0 [.int .i64 0, .int .i64 4, .int .i64 4, .int .i64 3, .int .i64 7, .int .i64 20]
  tab : Cells w 3 0 (tab64.map fun n : Nat => .int .u8 (n : Int))
  size : 4 ≤ w.heap.size

theorem Gl.tr {S : List Nat} {w w' : World} (h : Gl w) (t : Tr S w w') (hs : ∀ b ∈ S, 4 ≤ b) : Gl w' :=
  ⟨h.ptrs.tr t (fun hm => by have := hs _ hm; omega), h.hdr.tr t (fun hm => by have := hs _ hm; omega), h.tab.tr t (fun hm => by have := hs _ hm; omega), Nat.le_trans h.size t.size⟩
theorem Gl.ext {w w' : World} (h : Gl w) (t : Tr [] w w') : Gl w' := h.tr t (by simp)

def rightP (p : Int) : Bool := decide (p = 0 ∨ (0 ≤ p ∧ p < 4294967296 ∧ 0 < p % 4096 ∧ 0 < p / 4096))

theorem rightP_nat {q : Nat} (h : q < 4294967296) : (0 < part q 0 12 ∧ 0 < part q 12 20) ↔ (0 < (q : Int) % 4096 ∧ 0 < (q : Int) / 4096) := by
  unfold part
  simp only [Nat.pow_zero, Nat.div_one, show 2 ^ 12 = 4096 from rfl, show 2 ^ 20 = 1048576 from rfl]
  omega

theorem Right_calls (p : Int) (w : World) (hg : Gl w) : Calls cx.P 69 #[.int .i64 p] w (Ret fun v w' => v = .bool (rightP p) ∧ Tr [] w w') := by
  refine calls_body cx_ok (args := [.int .i64 p]) Tryz.func69 rfl 31 rfl rfl [.tmp 2] rfl ?_
  refine call (of_calls p w) ?_
  rintro _ w1 ⟨t1, b, rfl, hb⟩
  refine ⟨fun h0 => ?_, fun h0 => ?_⟩
  · exact ⟨by simp [rightP, h0], t1⟩
  refine call (pointer_word_calls p w1) ?_
  rintro v _ ⟨hv, rfl⟩
  by_cases hw : 0 ≤ p ∧ p ≤ 1099511627775
  · rw [decide_eq_true hw] at hv
    subst hv
    obtain ⟨q, rfl⟩ := Int.eq_ofNat_of_zero_le hw.1
    have hq : q < 1099511627776 := by omega
    refine ⟨_, by decide, shr_nat .i64 q 32 (by decide), ?_⟩
    refine ⟨fun h1 => ?_, fun h1 => ?_⟩
    · have hq2 : q < 4294967296 := by omega
      have hr := rightP_nat hq2
      refine ⟨0, rfl, by decide, [.int .i64 0, .int .i64 12], ?_, rfl, ?_⟩
      · have := (hg.ext t1).ptrs
        exact fun i v hi => this i v (by rcases i with _ | _ | i <;> simp_all)
      refine call (of1_calls q 0 12 b w1 hb (by omega) (by decide) (by decide)) ?_
      rintro _ w3 ⟨rfl, t3⟩
      refine ⟨fun h2 => ?_, fun h2 => ?_⟩
      · refine ⟨1, rfl, by decide, [.int .i64 12, .int .i64 20], ?_, rfl, ?_⟩
        · have := (hg.ext (t1.ext t3)).ptrs
          exact fun i v hi => by have := this (2 + i) v (by rcases i with _ | _ | i <;> simp_all); rw [show 0 + (2 + i) = 0 + 1 * 2 + i by omega] at this; exact this
        refine call (of1_calls q 12 20 b w3 (hb.ext t3) (by omega) (by decide) (by decide)) ?_
        rintro _ w4 ⟨rfl, t4⟩
        refine ⟨fun h3 => ?_, fun h3 => ?_⟩
        · exact ⟨by simp [rightP]; omega, (t1.ext t3).ext t4⟩
        · exact ⟨by simp [rightP]; omega, (t1.ext t3).ext t4⟩
      · exact ⟨by simp [rightP]; omega, t1.ext t3⟩
    · exact ⟨by simp [rightP]; omega, t1⟩
  · rw [decide_eq_false hw] at hv
    subst hv
    exact ⟨by simp [rightP]; omega, t1⟩

end Go.Proofs.YthepaakejpbppaaGreatDoor

/- Plain laws: the code of a line, as a specification on natural numbers. -/
namespace Go.Proofs.YthepaakejpbppaaGreatDoor

/-! The set bits of a word, from the least on -/

def bitsL (x : Nat) : List Nat := (List.range 40).filter fun i => x.testBit i

theorem least_bit {x : Nat} (h0 : x ≠ 0) : ∃ t m, x = 2 ^ (t + 1) * m + 2 ^ t := by
  induction x using Nat.strongRecOn with
  | _ x ih =>
    by_cases hodd : x % 2 = 1
    · exact ⟨0, x / 2, by omega⟩
    · obtain ⟨t, m, h⟩ := ih (x / 2) (by omega) (by omega)
      refine ⟨t + 1, m, ?_⟩
      have : x = 2 * (x / 2) := by omega
      rw [this, h, Nat.mul_add, ← Nat.mul_assoc, ← Nat.pow_succ', ← Nat.pow_succ']

theorem testBit_form (t m i : Nat) : (2 ^ (t + 1) * m + 2 ^ t).testBit i = if i < t + 1 then decide (i = t) else m.testBit (i - (t + 1)) := by
  rw [Nat.testBit_two_pow_mul_add _ (Nat.pow_lt_pow_right (by omega) (by omega))]
  split
  · rw [Nat.testBit_two_pow]; simp [eq_comm]
  · rfl

theorem testBit_form_pred (t m i : Nat) : (2 ^ (t + 1) * m + 2 ^ t - 1).testBit i = if i < t + 1 then decide (i < t) else m.testBit (i - (t + 1)) := by
  have hp := Nat.two_pow_pos t
  have h2 : 2 ^ (t + 1) = 2 * 2 ^ t := Nat.pow_succ'
  rw [Nat.add_sub_assoc hp, Nat.testBit_two_pow_mul_add _ (by omega)]
  split
  · rw [Nat.testBit_two_pow_sub_one]
  · rfl

theorem clear_least (t m i : Nat) : ((2 ^ (t + 1) * m + 2 ^ t) &&& (2 ^ (t + 1) * m + 2 ^ t - 1)).testBit i = ((2 ^ (t + 1) * m + 2 ^ t).testBit i && decide (i ≠ t)) := by
  rw [Nat.testBit_and, testBit_form, testBit_form_pred]
  by_cases h : i < t + 1
  · simp only [if_pos h]
    by_cases h1 : i = t
    · simp [h1]
    · simp [h1]
  · simp only [if_neg h]
    have : i ≠ t := by omega
    simp [this]

theorem form_lt {t m n : Nat} (h : 2 ^ (t + 1) * m + 2 ^ t < 2 ^ n) : t < n := by
  have : 2 ^ t < 2 ^ n := by omega
  exact (Nat.pow_lt_pow_iff_right (by omega)).1 this

/-- The number of the least set bit. -/
def ctzN (x : Nat) : Nat := (bitsL x).headD 40

theorem range_split (t n : Nat) (h : t < n) : List.range n = List.range t ++ t :: (List.range' (t + 1) (n - t - 1)) := by
  rw [List.range_eq_range', List.range_eq_range']
  have : n = t + (n - t) := by omega
  conv => lhs; rw [this, ← List.range'_append_1]
  congr 1
  have : n - t = (n - t - 1) + 1 := by omega
  rw [this, List.range'_succ]
  simp

theorem bitsL_form (t m : Nat) (h : t < 40) : bitsL (2 ^ (t + 1) * m + 2 ^ t) = t :: bitsL ((2 ^ (t + 1) * m + 2 ^ t) &&& (2 ^ (t + 1) * m + 2 ^ t - 1)) := by
  unfold bitsL
  rw [range_split t 40 h]
  simp only [List.filter_append, List.filter_cons, clear_least]
  have e1 : (List.range t).filter (fun i => (2 ^ (t + 1) * m + 2 ^ t).testBit i) = [] := by
    rw [List.filter_eq_nil_iff]
    intro i hi
    have hi := List.mem_range.1 hi
    rw [testBit_form, if_pos (by omega)]
    simp; omega
  have e2 : (List.range t).filter (fun i => (2 ^ (t + 1) * m + 2 ^ t).testBit i && decide (i ≠ t)) = [] := by
    rw [List.filter_eq_nil_iff]
    intro i hi
    have hi := List.mem_range.1 hi
    rw [testBit_form, if_pos (by omega)]
    simp
  have e3 : (2 ^ (t + 1) * m + 2 ^ t).testBit t = true := by rw [testBit_form]; simp
  rw [e1, e2]
  simp only [e3, List.nil_append, if_true, ne_eq, not_true, decide_false, Bool.and_false, Bool.false_eq_true, if_false]
  congr 1
  apply List.filter_congr
  intro i hi
  have := List.mem_range'_1.1 hi
  have : i ≠ t := by omega
  simp [this]

theorem bitsL_step {x : Nat} (h0 : x ≠ 0) (h : x < 2 ^ 40) : bitsL x = ctzN x :: bitsL (x &&& (x - 1)) := by
  obtain ⟨t, m, rfl⟩ := least_bit h0
  have ht := form_lt h
  have := bitsL_form t m ht
  unfold ctzN
  rw [this]
  rfl

theorem ctz_lt {x : Nat} (h0 : x ≠ 0) (h : x < 2 ^ 40) : ctzN x < 40 := by
  obtain ⟨t, m, rfl⟩ := least_bit h0
  have ht := form_lt h
  unfold ctzN
  rw [bitsL_form t m ht]
  exact ht

theorem bitsL_zero : bitsL 0 = [] := by decide

theorem and_pred_lt {x : Nat} (h0 : x ≠ 0) : x &&& (x - 1) < x := Nat.lt_of_le_of_lt Nat.and_le_right (by omega)

/-- x & -x. -/
theorem low_bit {x : Nat} (h0 : x ≠ 0) (h : x < 2 ^ 40) : x &&& (2 ^ 64 - x) = 2 ^ ctzN x := by
  obtain ⟨t, m, rfl⟩ := least_bit h0
  have ht := form_lt h
  have hc : ctzN (2 ^ (t + 1) * m + 2 ^ t) = t := by unfold ctzN; rw [bitsL_form t m ht]; rfl
  rw [hc]
  have hp := Nat.two_pow_pos t
  have h2 : 2 ^ (t + 1) = 2 * 2 ^ t := Nat.pow_succ'
  have h64 : 2 ^ 64 = 2 ^ (t + 1) * 2 ^ (63 - t) := by rw [← Nat.pow_add]; congr 1; omega
  have hm : m < 2 ^ (63 - t) := by
    have : 2 ^ (t + 1) * m < 2 ^ (t + 1) * 2 ^ (63 - t) := by rw [← h64]; omega
    exact Nat.lt_of_mul_lt_mul_left this
  have hneg : 2 ^ 64 - (2 ^ (t + 1) * m + 2 ^ t) = 2 ^ (t + 1) * (2 ^ (63 - t) - (m + 1)) + 2 ^ t := by
    rw [h64, Nat.mul_sub, Nat.mul_add, Nat.mul_one]
    have : 2 ^ (t + 1) * (m + 1) ≤ 2 ^ (t + 1) * 2 ^ (63 - t) := Nat.mul_le_mul_left _ hm
    rw [Nat.mul_add, Nat.mul_one] at this
    omega
  rw [hneg]
  apply Nat.eq_of_testBit_eq
  intro i
  rw [Nat.testBit_and, testBit_form, testBit_form, Nat.testBit_two_pow]
  by_cases hi : i < t + 1
  · simp only [if_pos hi, Bool.and_self]
    simp [eq_comm]
  · simp only [if_neg hi]
    have hne : t ≠ i := by omega
    rw [Nat.testBit_two_pow_sub_succ hm]
    simp only [hne, decide_false, Bool.and_eq_false_imp]
    intro h1
    simp [h1]

/-! Positions -/

def lenN (n : Nat) : Nat := if n = 0 then 0 else Nat.log2 n + 1

def posN (i : Nat) : Nat := if lenN (i + 1) < lenN (i + 1 + lenN (i + 1)) then i + 1 + lenN (i + 1) + 1 else i + 1 + lenN (i + 1)

theorem posN_lt : ∀ i, i < 320 → posN i < 512 := by decide +kernel

/-! The syndrome -/

def synStep (k : Nat) (acc : Nat × Nat) (b : Nat) : Nat × Nat := (acc.1 ^^^ posN (40 * k + b), acc.2 + 1)

def synW (k x : Nat) (acc : Nat × Nat) : Nat × Nat := (bitsL x).foldl (synStep k) acc

theorem synW_step {k x : Nat} {acc : Nat × Nat} (h0 : x ≠ 0) (h : x < 2 ^ 40) : synW k x acc = synW k (x &&& (x - 1)) (synStep k acc (ctzN x)) := by
  unfold synW
  rw [bitsL_step h0 h]
  rfl

theorem synW_zero (k : Nat) (acc : Nat × Nat) : synW k 0 acc = acc := by unfold synW; rw [bitsL_zero]; rfl

/-- The syndrome of the first k words. -/
def synTo (ws : List Nat) : Nat → Nat × Nat
  | 0 => (0, 0)
  | k + 1 => synW k (ws.getD k 0) (synTo ws k)

def syn (ws : List Nat) : Nat × Nat := synTo ws 8

theorem xor_lt512 {a b : Nat} (ha : a < 512) (hb : b < 512) : a ^^^ b < 512 := Nat.xor_lt_two_pow (n := 9) ha hb

theorem synW_bd {k : Nat} (hk : k < 8) : ∀ (l : List Nat) (acc : Nat × Nat), (∀ b ∈ l, b < 40) → acc.1 < 512 → (l.foldl (synStep k) acc).1 < 512 ∧ (l.foldl (synStep k) acc).2 = acc.2 + l.length := by
  intro l
  induction l with
  | nil => intro acc _ h; exact ⟨h, rfl⟩
  | cons b r ih =>
    intro acc hb h
    have hb0 := hb b (by simp)
    have := ih (synStep k acc b) (fun c hc => hb c (by simp [hc])) (xor_lt512 h (posN_lt _ (by omega)))
    refine ⟨this.1, ?_⟩
    rw [List.foldl_cons, this.2]
    simp only [synStep, List.length_cons]
    omega

theorem bitsL_mem {x b : Nat} (h : b ∈ bitsL x) : b < 40 := List.mem_range.1 (List.mem_filter.1 h).1
theorem bitsL_len (x : Nat) : (bitsL x).length ≤ 40 := by
  have := List.length_filter_le (fun i => x.testBit i) (List.range 40)
  simpa [bitsL] using this

theorem synTo_bd (ws : List Nat) : ∀ k, k ≤ 8 → (synTo ws k).1 < 512 ∧ (synTo ws k).2 ≤ 40 * k := by
  intro k
  induction k with
  | zero => intro _; simp [synTo]
  | succ k ih =>
    intro hk
    obtain ⟨h1, h2⟩ := ih (by omega)
    have := synW_bd (k := k) (by omega) (bitsL (ws.getD k 0)) (synTo ws k) (fun b hb => bitsL_mem hb) h1
    have hl := bitsL_len (ws.getD k 0)
    refine ⟨this.1, ?_⟩
    show (synW k (ws.getD k 0) (synTo ws k)).2 ≤ _
    unfold synW
    omega

/-! The code -/

def onesN (n : Nat) : Nat := ((List.range 10).filter fun i => n.testBit i).length

def enc (ws : List Nat) : Nat := if ((syn ws).2 + onesN (syn ws).1) % 2 = 1 then (syn ws).1 ||| 512 else (syn ws).1

theorem enc_lt (ws : List Nat) : enc ws < 1024 := by
  have := (synTo_bd ws 8 (by omega)).1
  unfold enc syn
  split
  · exact Nat.or_lt_two_pow (n := 10) (by omega) (by decide)
  · omega

structure St where
  state : Nat
  word : Nat
  bit : Nat
  deriving DecidableEq

/-- What Check returns. -/
def chk (ws : List Nat) (code : Nat) : St :=
  let s := (syn ws).1 ^^^ (code &&& 511)
  if ((syn ws).2 + onesN code) % 2 = 1 then
    if s = 0 then ⟨1, 8, 9⟩
    else if s &&& (s - 1) = 0 then ⟨1, 8, ctzN s⟩
    else match (List.range 320).find? (fun i => posN i == s) with
      | some i => ⟨1, i / 40, i % 40⟩
      | none => ⟨2, 0, 0⟩
  else if s = 0 then ⟨0, 0, 0⟩ else ⟨2, 0, 0⟩

def flip (ws : List Nat) (code : Nat) (st : St) : List Nat × Nat :=
  if st.word = 8 then (ws, code ^^^ 2 ^ st.bit) else (ws.set st.word (ws.getD st.word 0 ^^^ 2 ^ st.bit), code)

/-- What Fix returns; none: rotten. -/
def fix (ws : List Nat) (code : Nat) : Option (List Nat × Nat) :=
  match (chk ws code).state with
  | 0 => some (ws, code)
  | 1 => some (flip ws code (chk ws code))
  | _ => none

theorem ones_512 : ∀ s, s < 512 → onesN (s ||| 512) = onesN s + 1 ∧ (s ||| 512) &&& 511 = s ∧ s &&& 511 = s := by decide +kernel

theorem chk_enc (ws : List Nat) : chk ws (enc ws) = ⟨0, 0, 0⟩ := by
  have hs := (synTo_bd ws 8 (by omega)).1
  obtain ⟨h1, h2, h3⟩ := ones_512 _ hs
  have e : (syn ws).1 = (synTo ws 8).1 := rfl
  unfold chk enc
  rw [← e] at h1 h2 h3
  by_cases hp : ((syn ws).2 + onesN (syn ws).1) % 2 = 1
  · simp only [if_pos hp, h1, h2, Nat.xor_self]
    rw [if_neg (by omega)]
    simp
  · simp only [if_neg hp, h3, Nat.xor_self]
    simp

theorem fix_enc (ws : List Nat) : fix ws (enc ws) = some (ws, enc ws) := by unfold fix; rw [chk_enc]; rfl

end Go.Proofs.YthepaakejpbppaaGreatDoor

/- Contracts of package code: all but Check and Fix. -/
namespace Go.Proofs.YthepaakejpbppaaGreatDoor
open Go.E

/-! OnesCount -/

def ocF (x : Int) : Int :=
  let a1 := bits .and .u64 (shiftv .shr .u64 x 1) 6148914691236517205
  let b1 := bits .and .u64 x 6148914691236517205
  let x1 := IntKind.u64.wrap (a1 + b1)
  let a2 := bits .and .u64 (shiftv .shr .u64 x1 2) 3689348814741910323
  let b2 := bits .and .u64 x1 3689348814741910323
  let x2 := IntKind.u64.wrap (a2 + b2)
  let x3 := bits .and .u64 (IntKind.u64.wrap (shiftv .shr .u64 x2 4 + x2)) 1085102592571150095
  let x4 := IntKind.u64.wrap (x3 + shiftv .shr .u64 x3 8)
  let x5 := IntKind.u64.wrap (x4 + shiftv .shr .u64 x4 16)
  let x6 := IntKind.u64.wrap (x5 + shiftv .shr .u64 x5 32)
  bits .and .i64 (IntKind.i64.wrap x6) 127

theorem ocF_eq : ∀ x : Nat, x < 1024 → ocF (x : Int) = (onesN x : Int) := by decide +kernel

theorem OnesCount64_calls (x : Nat) (hx : x < 1024) (w : World) : Calls cx.P 147 #[.int .u64 x] w (Ret fun v w' => v = .int .i64 (onesN x : Nat) ∧ w = w') := by
  refine calls_body cx_ok (args := [.int .u64 x]) Tryz.func147 rfl 35 rfl rfl [.tmp 2] rfl ?_
  refine ⟨_, by decide, rfl, _, rfl, _, rfl, _, rfl, _, by decide, rfl, _, rfl, _, rfl, _, rfl, _, by decide, rfl, _, rfl, _, rfl, ?_⟩
  refine ⟨_, by decide, rfl, _, rfl, _, by decide, rfl, _, rfl, _, by decide, rfl, _, rfl, _, rfl, _, ocF_eq x hx, ?_⟩
  exact ⟨rfl, rfl⟩

theorem OnesCount_calls (x : Nat) (hx : x < 1024) (w : World) : Calls cx.P 122 #[.int .u64 x] w (Ret fun v w' => v = .int .i64 (onesN x : Nat) ∧ w = w') := by
  refine calls_body cx_ok (args := [.int .u64 x]) Tryz.func122 rfl 8 rfl rfl [.tmp 2] rfl ?_
  refine call (OnesCount64_calls x hx w) ?_
  rintro _ _ ⟨rfl, rfl⟩
  exact ⟨rfl, rfl⟩

/-! TrailingZeros -/

theorem tz_tab : ∀ t, t < 40 → tab64[(2 ^ t * 285870213051353865 % 2 ^ 64) / 2 ^ 58]? = some t ∧ (2 ^ t * 285870213051353865 % 2 ^ 64) / 2 ^ 58 < 64 := by decide +kernel

theorem TrailingZeros64_calls (x : Nat) (h0 : x ≠ 0) (hx : x < 2 ^ 40) (w : World) (hg : Gl w) :
    Calls cx.P 149 #[.int .u64 x] w (Ret fun v w' => v = .int .i64 (ctzN x : Nat) ∧ w = w') := by
  have ht := ctz_lt h0 hx
  obtain ⟨h1, h2⟩ := tz_tab _ ht
  refine calls_body cx_ok (args := [.int .u64 x]) Tryz.func149 rfl 14 rfl rfl [.tmp 2] rfl ?_
  refine ⟨fun h => absurd h (by omega), fun _ => ?_⟩
  refine ⟨((2 ^ 64 - x : Nat) : Int), ?_, ((2 ^ ctzN x : Nat) : Int), ?_, ((2 ^ ctzN x * 285870213051353865 % 2 ^ 64 : Nat) : Int), ?_, _, by decide, shr_nat .u64 _ 58 (by decide), ?_⟩
  · rw [IntKind.wrap_u64]; omega
  · rw [bits_and_u _ _ (by omega) (by omega), low_bit h0 hx]
  · rw [IntKind.wrap_u64]; simp
  have hcell : w.cell? ⟨3, 0 + (2 ^ ctzN x * 285870213051353865 % 2 ^ 64 / 2 ^ 58) * 1, none⟩ = some (.int .u8 (ctzN x : Nat)) := by
    have := hg.tab _ (.int .u8 (ctzN x : Nat)) (by rw [List.getElem?_map, h1]; rfl)
    rw [Nat.mul_one]; exact this
  refine ⟨_, rfl, h2, _, hcell, _, i64_small (r := ctzN x) (by omega), ?_⟩
  exact ⟨rfl, rfl⟩

theorem TrailingZeros_calls (x : Nat) (h0 : x ≠ 0) (hx : x < 2 ^ 40) (w : World) (hg : Gl w) :
    Calls cx.P 123 #[.int .u64 x] w (Ret fun v w' => v = .int .i64 (ctzN x : Nat) ∧ w = w') := by
  refine calls_body cx_ok (args := [.int .u64 x]) Tryz.func123 rfl 8 rfl rfl [.tmp 2] rfl ?_
  refine call (TrailingZeros64_calls x h0 hx w hg) ?_
  rintro _ _ ⟨rfl, rfl⟩
  exact ⟨rfl, rfl⟩

/-! Len -/

def len8 : List UInt8 := [0, 1, 2, 2, 3, 3, 3, 3, 4, 4, 4, 4, 4, 4, 4, 4] ++ List.replicate 16 5 ++ List.replicate 32 6 ++ List.replicate 64 7 ++ List.replicate 128 8
theorem len8_eq : ∀ k, k < 256 → ∃ v, len8[k]? = some v ∧ v.toNat = lenN k := by decide +kernel
theorem lenN_8 : ∀ x, x < 1024 → 256 ≤ x → lenN x = 8 + lenN (x / 256) := by decide +kernel
theorem lenN_le : ∀ x, x < 1024 → lenN x ≤ 10 := by decide +kernel

theorem Len64_calls (x : Nat) (hx : x < 1024) (w : World) : Calls cx.P 161 #[.int .u64 x] w (Ret fun v w' => v = .int .i64 (lenN x : Nat) ∧ w = w') := by
  refine calls_body cx_ok (args := [.int .u64 x]) Tryz.func161 rfl 25 rfl rfl [.tmp 2] rfl ?_
  refine ⟨fun h => absurd h (by omega), fun _ => ⟨fun h => absurd h (by omega), fun _ => ⟨fun h => ?_, fun h => ?_⟩⟩⟩
  · obtain ⟨v, hv, hl⟩ := len8_eq (x / 256) (by omega)
    have hb := lenN_le (x / 256) (by omega)
    refine ⟨_, by decide, shr_nat .u64 x 8 (by decide), _, w64 (by omega), ((x / 256 : Nat) : Int), ?_, x / 256, rfl, ?_, v, hv, _, w64 (by omega), _, w64 (by omega), ?_⟩
    · rw [IntKind.wrap_u8]; show ((x / 2 ^ 8 : Nat) : Int) % 256 = _; omega
    · exact Nat.lt_of_lt_of_le (by omega : x / 256 < 256) (Nat.le_of_eq (by kernel_rfl))
    · refine ⟨?_, rfl⟩
      have := lenN_8 x hx (by omega)
      rw [hl, this]
      simp
  · obtain ⟨v, hv, hl⟩ := len8_eq x (by omega)
    have hb := lenN_le x (by omega)
    refine ⟨(x : Int), ?_, x, rfl, ?_, v, hv, _, w64 (by omega), _, w64 (by omega), ?_⟩
    · rw [IntKind.wrap_u8]; omega
    · exact Nat.lt_of_lt_of_le (by omega : x < 256) (Nat.le_of_eq (by kernel_rfl))
    · exact ⟨by rw [hl]; simp, rfl⟩

theorem Len_calls (x : Nat) (hx : x < 1024) (w : World) : Calls cx.P 157 #[.int .u64 x] w (Ret fun v w' => v = .int .i64 (lenN x : Nat) ∧ w = w') := by
  refine calls_body cx_ok (args := [.int .u64 x]) Tryz.func157 rfl 8 rfl rfl [.tmp 2] rfl ?_
  refine call (Len64_calls x hx w) ?_
  rintro _ _ ⟨rfl, rfl⟩
  exact ⟨rfl, rfl⟩

/-! position, valid, sum -/

theorem position_calls (k b : Nat) (hk : k < 8) (hb : b < 40) (w : World) :
    Calls cx.P 145 #[.int .i64 k, .int .i64 b] w (Ret fun v w' => v = .int .i64 (posN (40 * k + b) : Nat) ∧ w = w') := by
  have hl := lenN_le (40 * k + b + 1) (by omega)
  refine calls_body cx_ok (args := [.int .i64 k, .int .i64 b]) Tryz.func145 rfl 27 rfl rfl [.tmp 4] rfl ?_
  refine ⟨((k * 40 : Nat) : Int), ?_, ((k * 40 + b : Nat) : Int), ?_, ((40 * k + b + 1 : Nat) : Int), ?_, ((40 * k + b + 1 : Nat) : Int), ?_, ?_⟩
  · rw [w64] <;> omega
  · rw [w64] <;> omega
  · rw [w64] <;> omega
  · rw [IntKind.wrap_u64]; omega
  refine call (Len_calls (40 * k + b + 1) (by omega) w) ?_
  rintro _ _ ⟨rfl, rfl⟩
  refine ⟨((40 * k + b + 1 + lenN (40 * k + b + 1) : Nat) : Int), ?_, ((40 * k + b + 1 + lenN (40 * k + b + 1) : Nat) : Int), ?_, ?_⟩
  · rw [w64] <;> omega
  · rw [IntKind.wrap_u64]; omega
  refine call (Len_calls (40 * k + b + 1 + lenN (40 * k + b + 1)) (by omega) _) ?_
  rintro _ _ ⟨rfl, rfl⟩
  refine ⟨((40 * k + b + 1 : Nat) : Int), ?_, ?_⟩
  · rw [IntKind.wrap_u64]; omega
  refine call (Len_calls (40 * k + b + 1) (by omega) _) ?_
  rintro _ _ ⟨rfl, rfl⟩
  refine ⟨fun h => ?_, fun h => ?_⟩
  · have h' : lenN (40 * k + b + 1) < lenN (40 * k + b + 1 + lenN (40 * k + b + 1)) := by omega
    refine ⟨((posN (40 * k + b) : Nat) : Int), ?_, ?_⟩
    · rw [w64 (by omega)]; unfold posN; rw [if_pos h']; omega
    · exact ⟨rfl, rfl⟩
  · have h' : ¬ lenN (40 * k + b + 1) < lenN (40 * k + b + 1 + lenN (40 * k + b + 1)) := by omega
    refine ⟨?_, rfl⟩
    unfold posN; rw [if_neg h']; rfl

/-- Eight words as a line's cells. -/
def wcells (ws : List Nat) : List Value := ws.map fun n : Nat => .int .i64 (n : Int)

structure Line8 (ws : List Nat) : Prop where
  len : ws.length = 8
  word : ∀ x ∈ ws, x < 2 ^ 40

theorem Line8.at {ws : List Nat} (h : Line8 ws) {k : Nat} (hk : k < 8) : ∃ x, ws[k]? = some x ∧ x < 2 ^ 40 ∧ ws.getD k 0 = x ∧ (wcells ws)[k]? = some (.int .i64 x) := by
  have hlt : k < ws.length := by rw [h.len]; exact hk
  refine ⟨ws[k], List.getElem?_eq_getElem hlt, h.word _ (List.getElem_mem hlt), ?_, ?_⟩
  · simp [List.getD, hlt]
  · simp [wcells, hlt]

theorem valid_calls (ws : List Nat) (h8 : Line8 ws) (code : Nat) (hc : code < 1024) (w : World) :
    Calls cx.P 120 #[.agg (wcells ws).toArray, .int .i64 code] w (Ret fun v w' => v = .bool true ∧ Tr [] w w') := by
  refine calls_body cx_ok (args := [.agg (wcells ws).toArray, .int .i64 code]) Tryz.func120 rfl 24 rfl rfl [.tmp 4] rfl ?_
  intro b w1 n1
  have hlen : (wcells ws).length = 8 := by simp [wcells, h8.len]
  refine ⟨wcells ws, n1.blk.all, hlen, ?_⟩
  refine loop_rule cx_ok (fun k w' => k ≤ 8 ∧ w1 = w') (fun k : Nat => [(8, .int .i64 k), (7, .agg (wcells ws).toArray), (1, .int .i64 code)]) (fun k => 8 - k) 0 ⟨rfl, rfl, rfl, trivial⟩ ⟨by omega, rfl⟩ ?_
  rintro k _ ⟨hk, rfl⟩
  refine ⟨fun h => ?_, fun h => ?_⟩
  · obtain ⟨x, hx, hx40, _, hxc⟩ := h8.at (k := k) (by omega)
    refine ⟨k, rfl, by omega, _, by simpa using hxc, ?_⟩
    refine ⟨fun h => absurd h (by omega), fun _ => ⟨fun h => absurd h (by omega), fun _ => ?_⟩⟩
    refine ⟨((k + 1 : Nat) : Int), by rw [w64 (by omega)]; omega, ?_⟩
    exact ⟨rfl, k + 1, ⟨rfl, rfl, rfl, trivial⟩, ⟨by omega, rfl⟩, by omega⟩
  · refine ⟨fun _ => ⟨fun _ => ?_, fun h => absurd h (by omega)⟩, fun h => absurd h (by omega)⟩
    exact ⟨rfl, n1.tr⟩

end Go.Proofs.YthepaakejpbppaaGreatDoor

/- Contracts of code.sum and code.Encode. -/
namespace Go.Proofs.YthepaakejpbppaaGreatDoor
open Go.E

theorem sum_calls (ws : List Nat) (h8 : Line8 ws) (w : World) (hg : Gl w) :
    Calls cx.P 121 #[.agg (wcells ws).toArray] w (Ret fun v w' => v = .tuple #[.int .i64 ((syn ws).1 : Nat), .int .i64 ((syn ws).2 : Nat)] ∧ Tr [] w w') := by
  refine calls_body cx_ok (args := [.agg (wcells ws).toArray]) Tryz.func121 rfl 29 rfl rfl [.tmp 2, .tmp 3] rfl ?_
  intro b w1 n1
  have hlen : (wcells ws).length = 8 := by simp [wcells, h8.len]
  have hg1 := hg.ext n1.tr
  refine ⟨wcells ws, n1.blk.all, hlen, ?_⟩
  refine loop_rule cx_ok (fun k w' => k ≤ 8 ∧ w1 = w')
    (fun k : Nat => [(7, .int .i64 k), (6, .agg (wcells ws).toArray), (2, .int .i64 ((synTo ws k).1 : Nat)), (3, .int .i64 ((synTo ws k).2 : Nat))]) (fun k => 8 - k) 0
    ⟨rfl, rfl, rfl, rfl, trivial⟩ ⟨by omega, rfl⟩ ?_
  rintro k _ ⟨hk, rfl⟩
  have hbd := synTo_bd ws k hk
  refine ⟨fun h => ?_, fun h => ?_⟩
  · obtain ⟨x, hx, hx40, hgd, hxc⟩ := h8.at (k := k) (by omega)
    refine ⟨k, rfl, by omega, _, by simpa using hxc, ?_⟩
    refine loop_rule cx_ok (α := Nat × Nat × Nat) (fun (⟨y, s, n⟩ : Nat × Nat × Nat) w' => y < 2 ^ 40 ∧ s < 512 ∧ n + (bitsL y).length ≤ 40 * (k + 1) ∧ synW k y (s, n) = synTo ws (k + 1) ∧ w1 = w')
      (fun (⟨y, s, n⟩ : Nat × Nat × Nat) => [(7, .int .i64 k), (6, .agg (wcells ws).toArray), (4, .int .i64 k), (5, .int .i64 (y : Nat)), (2, .int .i64 (s : Nat)), (3, .int .i64 (n : Nat))]) (fun p => p.1) (x, (synTo ws k).1, (synTo ws k).2)
      ⟨rfl, rfl, rfl, rfl, rfl, rfl, trivial⟩ ⟨hx40, hbd.1, ?_, by rw [synTo, hgd], rfl⟩ ?_
    · have := bitsL_len x
      have := hbd.2
      show (synTo ws k).2 + (bitsL x).length ≤ _
      omega
    rintro ⟨y, s, n⟩ _ ⟨hy, hs, hn, hsyn, rfl⟩
    refine ⟨fun h => ?_, fun h => ?_⟩
    · have h0 : y = 0 := by simpa using h
      subst h0
      rw [synW_zero] at hsyn
      refine ⟨((k + 1 : Nat) : Int), by rw [w64 (by omega)]; omega, ?_⟩
      refine ⟨rfl, k + 1, ⟨rfl, rfl, ?_, ?_, trivial⟩, ⟨by omega, rfl⟩, by omega⟩
      · rw [← hsyn]; rfl
      · rw [← hsyn]; rfl
    · have h0 : y ≠ 0 := fun e => h (by rw [e]; rfl)
      have ht := ctz_lt h0 hy
      have hp := posN_lt (40 * k + ctzN y) (by omega)
      have hst := bitsL_step h0 hy
      have hl : (bitsL y).length = (bitsL (y &&& (y - 1))).length + 1 := by rw [hst]; rfl
      rw [synW_step h0 hy] at hsyn
      refine ⟨((y : Nat) : Int), by rw [IntKind.wrap_u64]; omega, ?_⟩
      refine call (TrailingZeros_calls y h0 hy _ hg1) ?_
      rintro _ _ ⟨rfl, rfl⟩
      refine call (position_calls k (ctzN y) (by omega) ht _) ?_
      rintro _ _ ⟨rfl, rfl⟩
      refine ⟨_, bits_xor s (posN (40 * k + ctzN y)) (by omega) (by omega), ((n + 1 : Nat) : Int), by rw [w64 (by omega)]; omega, ((y - 1 : Nat) : Int), by rw [w64 (by omega)]; omega, _, bits_and y (y - 1) (by omega) (by omega), ?_⟩
      have hlt := and_pred_lt h0
      refine ⟨rfl, (y &&& (y - 1), s ^^^ posN (40 * k + ctzN y), n + 1), ⟨rfl, rfl, rfl, rfl, rfl, rfl, trivial⟩, ⟨by omega, xor_lt512 hs hp, by omega, hsyn, rfl⟩, hlt⟩
  · obtain rfl : k = 8 := by omega
    exact ⟨rfl, n1.tr⟩

theorem Encode_calls (ws : List Nat) (h8 : Line8 ws) (w : World) (hg : Gl w) :
    Calls cx.P 94 #[.agg (wcells ws).toArray] w (Ret fun v w' => v = .int .i64 (enc ws : Nat) ∧ Tr [] w w') := by
  refine calls_body cx_ok (args := [.agg (wcells ws).toArray]) Tryz.func94 rfl 23 rfl rfl [.tmp 2] rfl ?_
  intro b w1 n1
  have hlen : (wcells ws).length = 8 := by simp [wcells, h8.len]
  have hb := synTo_bd ws 8 (by omega)
  have hb1 : (syn ws).1 < 512 := hb.1
  have hb2 : (syn ws).2 ≤ 320 := hb.2
  refine ⟨wcells ws, n1.blk.all, hlen, ?_⟩
  refine call (valid_calls ws h8 0 (by omega) w1) ?_
  rintro _ w2 ⟨rfl, t2⟩
  have t12 := n1.tr.ext t2
  refine ⟨wcells ws, (n1.blk.ext t2).all, hlen, ?_⟩
  refine call (sum_calls ws h8 w2 (hg.ext t12)) ?_
  rintro _ w3 ⟨rfl, t3⟩
  have t13 := t12.ext t3
  refine ⟨((syn ws).1 : Int), by rw [IntKind.wrap_u64]; omega, ?_⟩
  refine call (OnesCount_calls (syn ws).1 (by omega) w3) ?_
  rintro _ _ ⟨rfl, rfl⟩
  have ho : onesN (syn ws).1 ≤ 10 := by
    have := List.length_filter_le (fun i => (syn ws).1.testBit i) (List.range 10)
    simpa [onesN] using this
  refine ⟨(((syn ws).2 + onesN (syn ws).1 : Nat) : Int), by rw [w64 (by omega)]; omega, ((((syn ws).2 + onesN (syn ws).1) % 2 : Nat) : Int), by decide, ?_, ?_⟩
  · rw [IntWalk.rem_in _ _ (by omega)]; omega
  refine ⟨fun h => ?_, fun h => ?_⟩
  · have h' : ((syn ws).2 + onesN (syn ws).1) % 2 = 1 := by omega
    refine ⟨_, bits_or (syn ws).1 512 (by omega) (by omega), ?_⟩
    exact ⟨by unfold enc; rw [if_pos h']; rfl, t13⟩
  · have h' : ¬ ((syn ws).2 + onesN (syn ws).1) % 2 = 1 := by omega
    exact ⟨by unfold enc; rw [if_neg h']; rfl, t13⟩

end Go.Proofs.YthepaakejpbppaaGreatDoor

/- Contracts of code.positions and code.Check. -/
namespace Go.Proofs.YthepaakejpbppaaGreatDoor
open Go.E

def startN (i : Nat) : Nat := if i = 0 then 3 else posN (i - 1) + 1

theorem startN_spec : ∀ i, i < 320 → startN i ≤ posN i ∧ (startN i &&& (startN i - 1) = 0 → startN i + 1 = posN i) ∧ (startN i &&& (startN i - 1) ≠ 0 → startN i = posN i) ∧ posN i &&& (posN i - 1) ≠ 0 ∧ startN (i + 1) = posN i + 1 := by decide +kernel

theorem positions_calls (w : World) : Calls cx.P 124 #[] w (Ret fun v w' => v = .func (.func 150) #[] #[] ∧ w = w') := by
  refine calls_body cx_ok (args := []) Tryz.func124 rfl 1 rfl rfl [.tmp 0] rfl ?_
  exact ⟨rfl, rfl⟩

theorem positions1_calls (l : Nat) (J : Nat → World → Prop) (X : World → Prop)
    (hy : ∀ i w, i < 320 → J i w → CallYP cx l [.agg #[.int .i64 (i / 40 : Nat), .int .i64 (i % 40 : Nat)], .int .i64 (posN i : Nat)] w fun v w' => (v = .bool true ∧ J (i + 1) w') ∨ (v = .bool false ∧ X w'))
    (w : World) (h0 : J 0 w) : Calls cx.P 150 #[.func (.yield l) #[] #[]] w (Ret fun _ w' => J 320 w' ∨ X w') := by
  refine calls_body cx_ok (args := [.func (.yield l) #[] #[]]) Tryz.func150 rfl 26 rfl rfl [] rfl ?_
  refine loop_rule cx_ok (fun i w' => i ≤ 320 ∧ J i w') (fun i : Nat => [(0, .func (.yield l) #[] #[]), (4, .int .i64 i), (2, .int .i64 (startN i : Nat))]) (fun i => 320 - i) 0 ⟨rfl, rfl, rfl, trivial⟩ ⟨by omega, h0⟩ ?_
  rintro i w1 ⟨hi, hJ⟩
  refine ⟨fun h => ?_, fun h => ?_⟩
  · have hi' : i < 320 := by omega
    obtain ⟨hle, hpow, hnot, hnp, hnext⟩ := startN_spec i hi'
    have hpl := posN_lt i hi'
    refine loop_rule cx_ok (fun m w' => (m = startN i ∨ m = posN i) ∧ m ≤ posN i ∧ 1 ≤ m ∧ w1 = w') (fun m : Nat => [(0, .func (.yield l) #[] #[]), (4, .int .i64 i), (3, .int .i64 i), (2, .int .i64 m)]) (fun m => posN i - m) (startN i)
      ⟨rfl, rfl, rfl, rfl, trivial⟩ ⟨.inl rfl, hle, by unfold startN; split <;> omega, rfl⟩ ?_
    rintro m _ ⟨hm, hmle, hm1, rfl⟩
    refine ⟨((m - 1 : Nat) : Int), by rw [w64 (by omega)]; omega, _, bits_and m (m - 1) (by omega) (by omega), fun h2 => ?_, fun h2 => ?_⟩
    · have h2' : m &&& (m - 1) = 0 := by omega
      have hms : m = startN i := hm.resolve_right fun e => hnp (e ▸ h2')
      refine ⟨((m + 1 : Nat) : Int), by rw [w64 (by omega)]; omega, ?_⟩
      refine ⟨rfl, m + 1, ⟨rfl, rfl, rfl, rfl, trivial⟩, ⟨.inr ?_, ?_, by omega, rfl⟩, ?_⟩
      · rw [hms]; exact hpow (hms ▸ h2')
      · rw [hms, hpow (hms ▸ h2')]; exact Nat.le_refl _
      · have := hpow (hms ▸ h2'); omega
    · have h2' : m &&& (m - 1) ≠ 0 := by omega
      have hmp : m = posN i := hm.elim (fun e => by rw [e]; exact hnot (e ▸ h2')) id
      subst hmp
      refine ⟨((i / 40 : Nat) : Int), by decide, ?_, ((i % 40 : Nat) : Int), by decide, ?_, _, rfl, ?_⟩
      · rw [IntWalk.i64_quo _ _ (by omega)]; omega
      · rw [IntWalk.rem_in _ _ (by omega)]; omega
      refine (hy i _ hi' hJ).imp ?_
      rintro v w2 (⟨rfl, hJ2⟩ | ⟨rfl, hX⟩)
      · refine ⟨((posN i + 1 : Nat) : Int), by rw [w64 (by omega)]; omega, ((i + 1 : Nat) : Int), by rw [w64 (by omega)]; omega, ?_⟩
        exact ⟨rfl, i + 1, ⟨rfl, rfl, by rw [hnext]; rfl, trivial⟩, ⟨by omega, hJ2⟩, by omega⟩
      · exact .inr hX
  · obtain rfl : i = 320 := by omega
    exact .inl hJ

theorem posN_pow : ∀ i, i < 320 → posN i &&& (posN i - 1) ≠ 0 := fun i hi => (startN_spec i hi).2.2.2.1

theorem find_some {s i : Nat} (hi : i < 320) (hs : posN i = s) (hbefore : ∀ j, j < i → posN j ≠ s) : (List.range 320).find? (fun i => posN i == s) = some i := by
  rw [List.find?_eq_some_iff_append]
  refine ⟨by simpa using hs, List.range i, List.range' (i + 1) (320 - i - 1), range_split i 320 hi, fun j hj => ?_⟩
  have := hbefore j (List.mem_range.1 hj)
  simpa using this

theorem find_none {s : Nat} (h : ∀ j, j < 320 → posN j ≠ s) : (List.range 320).find? (fun i => posN i == s) = none := by
  rw [List.find?_eq_none]
  intro j hj
  have := h j (List.mem_range.1 hj)
  simpa using this

def stVal (s : St) : Value := .tuple #[.int .i64 (s.state : Nat), .int .i64 (s.word : Nat), .int .i64 (s.bit : Nat)]

set_option maxHeartbeats 1000000 in
theorem Check_calls (ws : List Nat) (h8 : Line8 ws) (code : Nat) (hcode : code < 1024) (w : World) (hg : Gl w) :
    Calls cx.P 80 #[.agg (wcells ws).toArray, .int .i64 code] w (Ret fun v w' => v = stVal (chk ws code) ∧ Tr [] w w') := by
  refine calls_body_m cx_ok (args := [.agg (wcells ws).toArray, .int .i64 code]) Tryz.func80 rfl 64 rfl rfl [.cell 4 3, .cell 5 3, .cell 6 3] rfl ?_
  intro b2 w1 n1 b4 w2 n2 b5 w3 n3 b6 w4 n4
  have hlen : (wcells ws).length = 8 := by simp [wcells, h8.len]
  have hsb := synTo_bd ws 8 (by omega)
  have hs1 : (syn ws).1 < 512 := hsb.1
  have hs2 : (syn ws).2 ≤ 320 := hsb.2
  have e1 := n1.num; have e2 := n2.num; have e3 := n3.num; have e4 := n4.num
  have z1 := n1.size; have z2 := n2.size; have z3 := n3.size; have z4 := n4.size
  have B2 := n1.blk.ext (n2.tr.ext (n3.tr.ext n4.tr))
  have t4 := (n1.tr.ext n2.tr).ext (n3.tr.ext n4.tr)
  refine ⟨wcells ws, B2.all, hlen, ?_⟩
  refine call (valid_calls ws h8 code hcode w4) ?_
  rintro _ w5 ⟨rfl, t5⟩
  refine ⟨wcells ws, (B2.ext t5).all, hlen, ?_⟩
  refine call (sum_calls ws h8 w5 (hg.ext (t4.ext t5))) ?_
  rintro _ w6 ⟨rfl, t6⟩
  intro b7 w7 n7
  have e7 := n7.num; have z7 := n7.size; have z5 := t5.size; have z6 := t6.size
  refine ⟨_, _, n7.blk, by decide, rfl, ?_⟩
  intro w8 u8
  have B7 := u8.blk
  have z8 := u8.size
  have hand : code &&& 511 < 512 := Nat.lt_of_le_of_lt Nat.and_le_right (by decide)
  refine ⟨_, B7.cell rfl, _, bits_and code 511 (by omega) (by decide), _, bits_xor (syn ws).1 (code &&& 511) (by omega) (by omega), _, _, B7, by show 0 < 1; decide, rfl, ?_⟩
  intro w9 u9
  have B7 := u9.blk
  have z9 := u9.size
  -- the world now against w
  have t47 : Tr [] w4 w7 := (t5.ext t6).ext n7.tr
  have t49 : Tr [] w4 w9 := (u8.ext t47 (by omega)) |> fun t => u9.ext t (by omega)
  have t9 : Tr [] w w9 := t4.ext t49
  have B4 : Blk w9 b4 [.int .i64 0] 3 := (n2.blk.ext (n3.tr.ext n4.tr)).ext t49
  have B5 : Blk w9 b5 [.int .i64 0] 3 := (n3.blk.ext n4.tr).ext t49
  have B6 : Blk w9 b6 [.int .i64 0] 3 := n4.blk.ext t49
  have hone : onesN code ≤ 10 := by
    have := List.length_filter_le (fun i => code.testBit i) (List.range 10)
    simpa [onesN] using this
  refine ⟨(code : Int), by rw [IntKind.wrap_u64]; omega, ?_⟩
  refine call (OnesCount_calls code hcode w9) ?_
  rintro _ _ ⟨rfl, rfl⟩
  obtain ⟨s, hs⟩ : ∃ s, s = (syn ws).1 ^^^ (code &&& 511) := ⟨_, rfl⟩
  rw [← hs] at B7
  have hslt : s < 512 := by rw [hs]; exact xor_lt512 hs1 hand
  refine ⟨(((syn ws).2 + onesN code : Nat) : Int), by rw [w64 (by omega)]; omega, ((((syn ws).2 + onesN code) % 2 : Nat) : Int), by decide, ?_, ?_⟩
  · rw [IntWalk.rem_in _ _ (by omega)]; omega
  -- the three results stored
  have fin : ∀ (x y z : Int) (st : St) (wa : World), Tr [] w wa → Blk wa b4 [.int .i64 0] 3 → Blk wa b5 [.int .i64 0] 3 → Blk wa b6 [.int .i64 0] 3 → chk ws code = st → x = st.state → y = st.word → z = st.bit →
      ∃ l T, Blk wa b4 l T ∧ 0 < l.length ∧ E.one (.int .i64 x) = true ∧ ∀ wb, Upd wa b4 (.cells (l.set 0 (.int .i64 x)).toArray T) wb →
      ∃ l T, Blk wb b5 l T ∧ 0 < l.length ∧ E.one (.int .i64 y) = true ∧ ∀ wc, Upd wb b5 (.cells (l.set 0 (.int .i64 y)).toArray T) wc →
      ∃ l T, Blk wc b6 l T ∧ 0 < l.length ∧ E.one (.int .i64 z) = true ∧ ∀ wd, Upd wc b6 (.cells (l.set 0 (.int .i64 z)).toArray T) wd →
      ∃ v, wd.cell? ⟨b4, 0, none⟩ = some v ∧ ∃ v1, wd.cell? ⟨b5, 0, none⟩ = some v1 ∧ ∃ v2, wd.cell? ⟨b6, 0, none⟩ = some v2 ∧ (pack [v, v1, v2] = stVal (chk ws code) ∧ Tr [] w wd) := by
    intro x y z st wa ta A4 A5 A6 hst hx hy hz
    refine ⟨_, _, A4, by decide, rfl, fun wb ub => ⟨_, _, A5.tr ub.tr (by simp; omega), by decide, rfl, fun wc uc => ⟨_, _, (A6.tr ub.tr (by simp; omega)).tr uc.tr (by simp; omega), by decide, rfl, fun wd ud => ?_⟩⟩⟩
    refine ⟨_, ((ub.blk.tr uc.tr (by simp; omega)).tr ud.tr (by simp; omega)).cell rfl, _, (uc.blk.tr ud.tr (by simp; omega)).cell rfl, _, ud.blk.cell rfl, ?_, ?_⟩
    · rw [hst, hx, hy, hz]; rfl
    · exact ud.ext (uc.ext (ub.ext ta (by omega)) (by omega)) (by omega)
  refine ⟨fun hodd => ?_, fun hodd => ?_⟩
  · have hodd' : ((syn ws).2 + onesN code) % 2 = 1 := by omega
    refine ⟨_, B7.cell rfl, fun h0 => ?_, fun h0 => ?_⟩
    · have h0' : s = 0 := by omega
      exact fin 1 8 9 ⟨1, 8, 9⟩ w9 t9 B4 B5 B6 (by unfold chk; simp only [if_pos hodd', ← hs, h0', if_true]) rfl rfl rfl
    · have h0' : s ≠ 0 := by omega
      refine ⟨_, B7.cell rfl, _, B7.cell rfl, ((s - 1 : Nat) : Int), by rw [w64 (by omega)]; omega, _, bits_and s (s - 1) (by omega) (by omega), fun hp => ?_, fun hp => ?_⟩
      · have hp' : s &&& (s - 1) = 0 := by omega
        refine ⟨_, B7.cell rfl, (s : Int), by rw [IntKind.wrap_u64]; omega, ?_⟩
        refine call (TrailingZeros_calls s h0' (by omega) w9 (hg.ext t9)) ?_
        rintro _ _ ⟨rfl, rfl⟩
        exact fin 1 8 (ctzN s : Nat) ⟨1, 8, ctzN s⟩ w9 t9 B4 B5 B6 (by unfold chk; simp only [if_pos hodd', ← hs, if_neg h0', if_pos hp']) rfl rfl rfl
      · have hp' : s &&& (s - 1) ≠ 0 := by omega
        refine call (positions_calls w9) ?_
        rintro _ _ ⟨rfl, rfl⟩
        refine range_rule cx_ok (first := []) (cap := []) (g := 150) rfl rfl ?_
        intro fn tmps bD l wa wb na nb hag
        have ea := na.num; have eb := nb.num; have za := na.size; have zb := nb.size
        have tb : Tr [] w9 wb := na.tr.ext nb.tr
        have C4 := B4.ext tb; have C5 := B5.ext tb; have C6 := B6.ext tb; have C7 := B7.ext tb
        have hbD : wb.heap[bD]? = some (.deferred (some [])) := nb.tr.get na.get (by simp)
        -- behind the loop
        have fin2 : ∀ (x y z : Int) (st : St) (wc : World), Tr [l] wb wc → chk ws code = st → x = st.state → y = st.word → z = st.bit →
            ∃ A T, Blk wc b4 A T ∧ 0 < A.length ∧ E.one (.int .i64 x) = true ∧ ∀ wd, Upd wc b4 (.cells (A.set 0 (.int .i64 x)).toArray T) wd →
            ∃ A T, Blk wd b5 A T ∧ 0 < A.length ∧ E.one (.int .i64 y) = true ∧ ∀ we, Upd wd b5 (.cells (A.set 0 (.int .i64 y)).toArray T) we →
            ∃ A T, Blk we b6 A T ∧ 0 < A.length ∧ E.one (.int .i64 z) = true ∧ ∀ wf, Upd we b6 (.cells (A.set 0 (.int .i64 z)).toArray T) wf →
            wf.heap[bD]? = some (.deferred (some [])) ∧ ∀ wg, Upd wf bD (.deferred none) wg →
            ∃ v, wg.cell? ⟨b4, 0, none⟩ = some v ∧ ∃ v1, wg.cell? ⟨b5, 0, none⟩ = some v1 ∧ ∃ v2, wg.cell? ⟨b6, 0, none⟩ = some v2 ∧ (pack [v, v1, v2] = stVal (chk ws code) ∧ Tr [] w wg) := by
          intro x y z st wc tc hst hx hy hz
          refine ⟨_, _, C4.tr tc (by simp; omega), by show 0 < 1; decide, rfl, fun wd ud => ⟨_, _, (C5.tr tc (by simp; omega)).tr ud.tr (by simp; omega), by show 0 < 1; decide, rfl, fun we ue =>
            ⟨_, _, ((C6.tr tc (by simp; omega)).tr ud.tr (by simp; omega)).tr ue.tr (by simp; omega), by show 0 < 1; decide, rfl, fun wf uf => ⟨?_, fun wg ug => ?_⟩⟩⟩⟩
          · exact uf.tr.get (ue.tr.get (ud.tr.get (tc.get hbD (by simp; omega)) (by simp; omega)) (by simp; omega)) (by simp; omega)
          · refine ⟨_, (((ud.blk.tr ue.tr (by simp; omega)).tr uf.tr (by simp; omega)).tr ug.tr (by simp; omega)).cell rfl, _, ((ue.blk.tr uf.tr (by simp; omega)).tr ug.tr (by simp; omega)).cell rfl, _, (uf.blk.tr ug.tr (by simp; omega)).cell rfl, ?_, ?_⟩
            · rw [hst, hx, hy, hz]; rfl
            · have t1 : Tr [] w wc := (t9.ext tb).trans tc (fun _ h => h) (fun c hc hlt => by simp at hc; omega)
              exact ug.ext (uf.ext (ue.ext (ud.ext t1 (by omega)) (by omega)) (by omega)) (by omega)
        refine call (positions1_calls l (fun i W => Tr [l] wb W ∧ W.heap[l]? = wb.heap[l]? ∧ ∀ j, j < i → posN j ≠ s)
          (fun W => ∃ i, i < 320 ∧ posN i = s ∧ (∀ j, j < i → posN j ≠ s) ∧ Tr [l, b4, b5, b6] wb W ∧ Blk W b4 [.int .i64 1] 3 ∧ Blk W b5 [.int .i64 (i / 40 : Nat)] 3 ∧ Blk W b6 [.int .i64 (i % 40 : Nat)] 3 ∧
            ∃ lp, W.heap[l]? = some (.loop lp) ∧ lp.state = .done ∧ lp.pending = some .ret) ?_ wb ⟨Tr.refl _ _, rfl, fun j hj => by omega⟩) ?_
        · rintro i W hi ⟨tJ, hlJ, hb⟩
          have zW := tJ.size
          refine round_rule cx_ok [55, 56] (hlJ.trans nb.get) rfl rfl rfl hag rfl ?_
          intro b10 W1 m1
          have em := m1.num; have zm := m1.size
          refine ⟨_, _, m1.blk, rfl, by show 0 + 2 ≤ 2; decide, rfl, ?_⟩
          intro W2 v2
          have zv := v2.size
          have D10 := v2.blk
          have hl2 : W2.heap[l]? = wb.heap[l]? := by
            rw [v2.tr.keep l (by omega) (by simp; omega), m1.tr.keep l (by omega) (by simp), hlJ]
          refine ⟨hl2.trans nb.get, ?_⟩
          intro W3 v3
          have zv3 := v3.size
          have t3 : Tr [l] wb W3 := (tJ.trans m1.tr (fun _ h => h) (fun _ h _ => by cases h) |>.trans v2.tr (fun _ h => h) (fun c hc hlt => by simp at hc; omega)).trans v3.tr (fun _ h => h) (fun _ h _ => h)
          have D7 := C7.tr t3 (by simp; omega)
          have D10 := D10.tr v3.tr (by simp; omega)
          refine ⟨_, D7.cell rfl, fun h => ?_, fun h => ?_⟩
          · have hpos : posN i = s := by omega
            refine draw_rule cx_ok [b4, b5] (Plan.takes [0, 1, 2, 3] (.one true 4 (.one true 5 (.one false 6 .done)))) (by kernel_rfl) ?_
            intro W4 dr
            have t4' : Tr [l] wb W4 := t3.trans dr.tr (fun _ h => h) (fun _ h _ => by cases h)
            have zd := dr.tr.size
            refine ⟨_, fun w' t => t.cell (D10.cell rfl) (by simp; omega), _, fun w' t => t.cell (D10.cell rfl) (by simp; omega), ?_⟩
            refine ⟨⟨_, _, C4.tr t4' (by simp; omega), by show 0 < 1; decide, rfl, fun W5 u5 => ⟨dr.tr.trans u5.tr (fun _ h => by cases h) (fun c h _ => by simp at h ⊢; omega), ?_⟩⟩, trivial⟩
            refine ⟨⟨_, _, (C5.tr t4' (by simp; omega)).tr u5.tr (by simp; omega), by show 0 < 1; decide, rfl, fun W6 u6 => ⟨(dr.tr.trans u5.tr (fun _ h => by cases h) (fun c h _ => by simp at h ⊢; omega)).trans u6.tr (S := [b4, b5]) (fun _ h => h) (fun c h _ => by simp at h ⊢; omega), ?_⟩⟩, trivial⟩
            refine ⟨⟨_, _, ((C6.tr t4' (by simp; omega)).tr u5.tr (by simp; omega)).tr u6.tr (by simp; omega), by show 0 < 1; decide, rfl, fun W7 u7 => ?_⟩, trivial⟩
            have z5' := u5.size; have z6' := u6.size; have z7' := u7.size
            refine ⟨_, u7.tr.get (u6.tr.get (u5.tr.get (dr.tr.get v3.get (by simp)) (by simp; omega)) (by simp; omega)) (by simp; omega), fun W8 u8' => ?_⟩
            refine .inr ⟨rfl, i, hi, hpos, hb, ?_, ?_, ?_, ?_, _, u8'.get, rfl, rfl⟩
            · have q5 : Tr [l, b4, b5, b6] wb W5 := t4'.trans u5.tr (fun c h => by simp at h ⊢; exact .inl h) (fun c h _ => by simp at h ⊢; omega)
              have q6 : Tr [l, b4, b5, b6] wb W6 := q5.trans u6.tr (fun _ h => h) (fun c h _ => by simp at h ⊢; omega)
              have q7 : Tr [l, b4, b5, b6] wb W7 := q6.trans u7.tr (fun _ h => h) (fun c h _ => by simp at h ⊢; omega)
              exact q7.trans u8'.tr (fun _ h => h) (fun c h _ => by simp at h ⊢; omega)
            · exact ((u5.blk.tr u6.tr (by simp; omega)).tr u7.tr (by simp; omega)).tr u8'.tr (by simp; omega)
            · exact ((u6.blk.tr u7.tr (by simp; omega)).tr u8'.tr (by simp; omega))
            · exact u7.blk.tr u8'.tr (by simp; omega)
          · refine ⟨_, v3.get, fun W8 u8' => .inl ⟨rfl, t3.same u8'.tr, ?_, ?_⟩⟩
            · rw [u8'.get, nb.get]
            · intro j hj
              by_cases hji : j = i
              · subst hji; omega
              · exact hb j (by omega)
        · rintro _ w3' (⟨tJ, hlJ, hall⟩ | ⟨i, hi, hpos, hb, tX, X4, X5, X6, lp, hlp, hst, hpend⟩)
          · refine ⟨_, hlJ.trans nb.get, by simp, fun w4' u4 => ?_⟩
            have tq : Tr [l] wb w4' := tJ.same u4.tr
            exact fin2 2 0 0 ⟨2, 0, 0⟩ w4' tq (by unfold chk; simp only [if_pos hodd', ← hs, if_neg h0', if_neg hp', find_none hall]) rfl rfl rfl
          · refine ⟨lp, hlp, by rw [hst]; simp, fun w4' u4 => ?_⟩
            rw [hpend]
            have zX := tX.size
            have z4' := u4.size
            refine ⟨?_, fun w5' u5 => ?_⟩
            · exact u4.tr.get (tX.get hbD (by simp; omega)) (by simp; omega)
            · refine ⟨_, ((X4.tr u4.tr (by simp; omega)).tr u5.tr (by simp; omega)).cell rfl, _, ((X5.tr u4.tr (by simp; omega)).tr u5.tr (by simp; omega)).cell rfl, _, ((X6.tr u4.tr (by simp; omega)).tr u5.tr (by simp; omega)).cell rfl, ?_, ?_⟩
              · have : chk ws code = ⟨1, i / 40, i % 40⟩ := by unfold chk; simp only [if_pos hodd', ← hs, if_neg h0', if_neg hp', find_some hi hpos hb]
                rw [this]; rfl
              · have t1 : Tr [] w w3' := (t9.ext tb).trans tX (fun _ h => h) (fun c hc hlt => by simp at hc; omega)
                exact u5.ext (u4.ext t1 (by omega)) (by omega)
  · have hodd' : ¬ ((syn ws).2 + onesN code) % 2 = 1 := by omega
    refine ⟨_, B7.cell rfl, fun h0 => ?_, fun h0 => ?_⟩
    · have h0' : s = 0 := by omega
      exact fin 0 0 0 ⟨0, 0, 0⟩ w9 t9 B4 B5 B6 (by unfold chk; simp only [if_neg hodd', ← hs, h0', if_true]) rfl rfl rfl
    · have h0' : s ≠ 0 := by omega
      exact fin 2 0 0 ⟨2, 0, 0⟩ w9 t9 B4 B5 B6 (by unfold chk; simp only [if_neg hodd', ← hs, if_neg h0']) rfl rfl rfl

end Go.Proofs.YthepaakejpbppaaGreatDoor

/- Contracts of code.exists, code.Flip and code.Fix. -/
namespace Go.Proofs.YthepaakejpbppaaGreatDoor
open Go.E

/-- Is there a bit? -/
def Bit (k b : Nat) : Prop := (k < 8 ∧ b < 40) ∨ (k = 8 ∧ b < 10)

theorem ctz_10 : ∀ s, s < 512 → s ≠ 0 → ctzN s < 10 := by decide +kernel

theorem chk_bit (ws : List Nat) (code : Nat) (_hcode : code < 1024) (h : (chk ws code).state = 1) : Bit (chk ws code).word (chk ws code).bit := by
  have hs := (synTo_bd ws 8 (by omega)).1
  have e : (syn ws).1 = (synTo ws 8).1 := rfl
  have hand : code &&& 511 < 512 := Nat.lt_of_le_of_lt Nat.and_le_right (by decide)
  have hx : (syn ws).1 ^^^ (code &&& 511) < 512 := xor_lt512 (by omega) hand
  unfold chk at h ⊢
  dsimp only at h ⊢
  split
  · split
    · exact .inr ⟨rfl, by decide⟩
    · rename_i h0
      split
      · exact .inr ⟨rfl, ctz_10 _ hx h0⟩
      · split
        · rename_i i hi
          have := List.mem_of_find?_eq_some hi
          rw [List.mem_range] at this
          exact .inl ⟨by show i / 40 < 8; omega, by show i % 40 < 40; omega⟩
        · rename_i h1 h2 _ h4
          simp only [if_pos h1, if_neg h0, if_neg h2] at h
          rw [h4] at h
          simp at h
  · rename_i h1
    simp only [if_neg h1] at h
    split at h <;> simp at h

theorem chk_le (ws : List Nat) (code : Nat) : (chk ws code).state ≤ 2 := by
  unfold chk
  dsimp only
  split
  · split
    · decide
    · split
      · show 1 ≤ 2; decide
      · split
        · show 1 ≤ 2; decide
        · decide
  · split <;> decide

theorem exists_calls (k b : Nat) (h : Bit k b) (w : World) : Calls cx.P 158 #[.int .i64 k, .int .i64 b] w (Ret fun v w' => v = .bool true ∧ w = w') := by
  refine calls_body cx_ok (args := [.int .i64 k, .int .i64 b]) Tryz.func158 rfl 31 rfl rfl [.tmp 4] rfl ?_
  refine ⟨fun _ => ⟨fun h1 => ⟨fun _ => ⟨fun h2 => ?_, fun h2 => ?_⟩, fun h => absurd h (by omega)⟩, fun h1 => ?_⟩, fun h => absurd h (by omega)⟩
  · exact ⟨rfl, rfl⟩
  · unfold Bit at h; omega
  · refine ⟨fun h2 => ⟨fun _ => ⟨fun h3 => ?_, fun h3 => ?_⟩, fun h => absurd h (by omega)⟩, fun h2 => ?_⟩
    · exact ⟨rfl, rfl⟩
    · unfold Bit at h; omega
    · unfold Bit at h; omega

def flipW (ws : List Nat) (k b : Nat) : List Nat := if k = 8 then ws else ws.set k (ws.getD k 0 ^^^ 2 ^ b)
def flipC (code k b : Nat) : Nat := if k = 8 then code ^^^ 2 ^ b else code

theorem Line8.flip {ws : List Nat} (h8 : Line8 ws) {k b : Nat} (h : Bit k b) : Line8 (flipW ws k b) := by
  unfold flipW
  split
  · exact h8
  · rename_i hk
    have hk8 : k < 8 ∧ b < 40 := by unfold Bit at h; omega
    obtain ⟨x, _, hx, hg, _⟩ := h8.at hk8.1
    refine ⟨by simp [h8.len], fun y hy => ?_⟩
    rcases List.mem_or_eq_of_mem_set hy with hy | rfl
    · exact h8.word y hy
    · rw [hg]
      exact Nat.xor_lt_two_pow hx (Nat.pow_lt_pow_right (by decide) hk8.2)

theorem flipC_lt {code k b : Nat} (hc : code < 1024) (h : Bit k b) : flipC code k b < 1024 := by
  unfold flipC
  split
  · rename_i hk
    have hb : b < 10 := by unfold Bit at h; omega
    exact Nat.xor_lt_two_pow (n := 10) hc (Nat.pow_lt_pow_right (by decide) hb)
  · exact hc

theorem wcells_set (ws : List Nat) (k x : Nat) : wcells (ws.set k x) = (wcells ws).set k (.int .i64 x) := by simp [wcells, List.map_set]

theorem splice_all {l vs : List Value} {n : Nat} (hl : l.length = n) (_hv : vs.length = n) : splice l 0 n vs = vs := by
  simp [splice, ← hl]

theorem wcells_len {ws : List Nat} (h8 : Line8 ws) : (wcells ws).length = 8 := by simp [wcells, h8.len]
theorem wcells_one (ws : List Nat) : (wcells ws).all E.one = true := by simp [wcells, E.one]

theorem Flip_calls (ws : List Nat) (h8 : Line8 ws) (code k b : Nat) (hcode : code < 1024) (hb : Bit k b) (w : World) :
    Calls cx.P 153 #[.agg (wcells ws).toArray, .int .i64 code, .int .i64 k, .int .i64 b] w (Ret fun v w' => v = .tuple #[.agg (wcells (flipW ws k b)).toArray, .int .i64 (flipC code k b : Nat)] ∧ Tr [] w w') := by
  refine calls_body cx_ok (args := [.agg (wcells ws).toArray, .int .i64 code, .int .i64 k, .int .i64 b]) Tryz.func153 rfl 31 rfl rfl [.cell 8 69, .tmp 9] rfl ?_
  intro b4 w1 n1 b8 w2 n2
  have hlen := wcells_len h8
  have e1 := n1.num; have e2 := n2.num; have z1 := n1.size; have z2 := n2.size
  have B4 : Blk w2 b4 (wcells ws) 69 := n1.blk.ext n2.tr
  have t2 := n1.tr.ext n2.tr
  have hfl := h8.flip hb
  -- the end
  have fin : ∀ (W : World) (o : List Value), Tr [] w W → Blk W b4 (wcells (flipW ws k b)) 69 → Blk W b8 o 69 → o.length = 8 →
      ∃ cs, Cells W b4 0 cs ∧ cs.length = 8 ∧ (StN W b8 0 8 cs.toArray.toList fun W' => ∃ cs2, Cells W' b8 0 cs2 ∧ cs2.length = 8 ∧ (pack [.agg cs2.toArray, .int .i64 (flipC code k b : Nat)] = .tuple #[.agg (wcells (flipW ws k b)).toArray, .int .i64 (flipC code k b : Nat)] ∧ Tr [] w W')) := by
    intro W o t A4 A8 ho
    have hl2 := wcells_len hfl
    refine ⟨_, A4.all, hl2, _, _, A8, hl2, by omega, wcells_one _, fun W' u => ⟨_, ?_, hl2, rfl, u.ext t (by omega)⟩⟩
    have := u.blk.all
    rwa [splice_all ho hl2] at this
  refine call (exists_calls k b hb w2) ?_
  rintro _ _ ⟨rfl, rfl⟩
  refine ⟨fun h => ?_, fun h => ?_⟩
  · have hk : k = 8 := by omega
    subst hk
    have hb10 : b < 10 := by unfold Bit at hb; omega
    have h2 : 2 ^ b < 2 ^ 10 := Nat.pow_lt_pow_right (by decide) hb10
    refine ⟨_, by omega, shl_nat 1 b (by omega) (by omega), ((flipC code 8 b : Nat) : Int), ?_, ?_⟩
    · rw [bits_xor _ _ (by omega) (by omega)]; simp [flipC]
    · have hws : flipW ws 8 b = ws := by simp [flipW]
      exact fin w2 _ t2 (hws ▸ B4) n2.blk rfl
  · have hk : k ≠ 8 := by omega
    have hk8 : k < 8 ∧ b < 40 := by unfold Bit at hb; omega
    obtain ⟨x, hx, hx40, hgd, hxc⟩ := h8.at hk8.1
    have h2 : 2 ^ b < 2 ^ 40 := Nat.pow_lt_pow_right (by decide) hk8.2
    refine draw_rule cx_ok [] (Plan.takes [0, 1, 2, 3, 4, 5, 6] (.one false 7 .done)) (by kernel_rfl) ?_
    intro w3 d
    have t3 := t2.ext d.tr
    refine ⟨k, rfl, hk8.1, _, fun w' t => t.cell (B4.cell (by simpa using hxc)) (by simp), ?_⟩
    refine ⟨_, by omega, shl_nat 1 b (by omega) (by omega), _, bits_xor _ _ (by omega) (by omega), ?_⟩
    refine ⟨k, rfl, hk8.1, ?_⟩
    refine ⟨⟨_, _, B4.ext d.tr, by rw [hlen]; show 0 + k * 1 < 8; omega, rfl, fun w4 u4 => ?_⟩, trivial⟩
    have hws : flipW ws k b = ws.set k (x ^^^ 1 * 2 ^ b) := by simp only [flipW, if_neg hk, hgd, Nat.one_mul]
    have hcd : flipC code k b = code := by simp [flipC, hk]
    have B4' := u4.blk
    rw [show 0 + k * 1 = k by omega, ← wcells_set, ← hws] at B4'
    have := fin w4 _ (u4.ext t3 (by omega)) B4' ((n2.blk.ext d.tr).tr u4.tr (by simp; omega)) rfl
    rwa [hcd] at this ⊢

/-- What Fix returns as values. -/
def fixVal : Option (List Nat × Nat) → Value
  | some (ws, code) => .tuple #[.agg (wcells ws).toArray, .int .i64 (code : Nat), .int .i64 0]
  | none => .tuple #[.agg (wcells (List.replicate 8 0)).toArray, .int .i64 0, .int .i64 9]

theorem flip_eq (ws : List Nat) (code : Nat) (st : St) : flip ws code st = (flipW ws st.word st.bit, flipC code st.word st.bit) := by
  unfold flip flipW flipC
  split <;> rfl

theorem fix_line {ws vs : List Nat} {code c : Nat} (h8 : Line8 ws) (hcode : code < 1024) (h : fix ws code = some (vs, c)) : Line8 vs ∧ c < 1024 := by
  unfold fix at h
  split at h
  · simp only [Option.some.injEq, Prod.mk.injEq] at h
    obtain ⟨rfl, rfl⟩ := h
    exact ⟨h8, hcode⟩
  · rename_i h1
    have hb := chk_bit ws code hcode h1
    rw [flip_eq] at h
    simp only [Option.some.injEq, Prod.mk.injEq] at h
    obtain ⟨rfl, rfl⟩ := h
    exact ⟨h8.flip hb, flipC_lt hcode hb⟩
  · simp at h

theorem Fix_calls (ws : List Nat) (h8 : Line8 ws) (code : Nat) (hcode : code < 1024) (w : World) (hg : Gl w) :
    Calls cx.P 131 #[.agg (wcells ws).toArray, .int .i64 code] w (Ret fun v w' => v = fixVal (fix ws code) ∧ Tr [] w w') := by
  refine calls_body cx_ok (args := [.agg (wcells ws).toArray, .int .i64 code]) Tryz.func131 rfl 38 rfl rfl [.cell 4 69, .tmp 5, .tmp 6] rfl ?_
  intro b2 w1 n1 b4 w2 n2
  have hlen := wcells_len h8
  have e1 := n1.num; have e2 := n2.num; have z1 := n1.size; have z2 := n2.size
  have B2 : Blk w2 b2 (wcells ws) 69 := n1.blk.ext n2.tr
  have t2 := n1.tr.ext n2.tr
  refine ⟨_, B2.all, hlen, ?_⟩
  refine call (valid_calls ws h8 code hcode w2) ?_
  rintro _ w3 ⟨rfl, t3⟩
  refine ⟨_, (B2.ext t3).all, hlen, ?_⟩
  refine call (Check_calls ws h8 code hcode w3 (hg.ext (t2.ext t3))) ?_
  rintro _ w4 ⟨rfl, t4⟩
  have z3 := t3.size; have z4 := t4.size
  have C2 := (B2.ext t3).ext t4
  have C4 := (n2.blk.ext t3).ext t4
  have tw := (t2.ext t3).ext t4
  have hle := chk_le ws code
  -- the end, with what Fix returns in the first variable
  have fin : ∀ (W : World) (vs : List Nat) (c : Nat), Line8 vs → Tr [] w W → Blk W b2 (wcells vs) 69 → Blk W b4 (List.replicate 8 (.int .i64 0)) 69 → fix ws code = some (vs, c) →
      ∃ cs, Cells W b2 0 cs ∧ cs.length = 8 ∧ (StN W b4 0 8 cs.toArray.toList fun W' => ∃ cs2, Cells W' b4 0 cs2 ∧ cs2.length = 8 ∧ (pack [.agg cs2.toArray, .int .i64 (c : Nat), .int .i64 0] = fixVal (fix ws code) ∧ Tr [] w W')) := by
    intro W vs c hv t A2 A4 hfix
    have hl2 := wcells_len hv
    refine ⟨_, A2.all, hl2, _, _, A4, hl2, by simp, wcells_one _, fun W' u => ⟨_, ?_, hl2, by rw [hfix]; rfl, u.ext t (by omega)⟩⟩
    have := u.blk.all
    rwa [splice_all (by simp) hl2] at this
  refine ⟨fun h => ?_, fun h => ⟨fun h1 => ?_, fun h1 => ?_⟩⟩
  · have hs : (chk ws code).state = 2 := by omega
    have hfix : fix ws code = none := by unfold fix; rw [hs]; rfl
    refine ⟨_, rfl, _, _, C4, rfl, by show 0 + 8 ≤ 8; decide, rfl, fun w5 u5 => ⟨_, ?_, rfl, by rw [hfix]; rfl, u5.ext tw (by omega)⟩⟩
    exact u5.blk.all
  · have hs : (chk ws code).state = 1 := by omega
    have hb := chk_bit ws code hcode hs
    refine ⟨_, C2.all, hlen, ?_⟩
    refine call (Flip_calls ws h8 code _ _ hcode hb w4) ?_
    rintro _ w5 ⟨rfl, t5⟩
    have hl2 := wcells_len (h8.flip hb)
    have z5 := t5.size
    refine ⟨_, _, C2.ext t5, hl2, by rw [hlen]; decide, wcells_one _, fun w6 u6 => ?_⟩
    have D2 := u6.blk
    rw [splice_all hlen hl2] at D2
    exact fin w6 _ _ (h8.flip hb) (u6.ext (tw.ext t5) (by omega)) D2 ((C4.ext t5).tr u6.tr (by simp; omega)) (by unfold fix; rw [hs]; show some (flip ws code (chk ws code)) = _; rw [flip_eq])
  · have hs : (chk ws code).state = 0 := by omega
    exact fin w4 ws code h8 tw C2 C4 (by unfold fix; rw [hs]; rfl)

end Go.Proofs.YthepaakejpbppaaGreatDoor

/- The memory: its model, and how it lies in the heap. -/
namespace Go.Proofs.YthepaakejpbppaaGreatDoor
open Go.E

/-! The model -/

structure Ln where
  ws : List Nat
  code : Nat
  pend : List (Nat × Nat)
  mark : Nat

structure Ln.Ok (l : Ln) : Prop where
  ws : Line8 l.ws
  code : l.code < 1024
  pend : ∀ p ∈ l.pend, p.1 < 8 ∧ p.2 < 2 ^ 40
  mark : l.mark ≤ l.pend.length

def zeros8 : List Nat := List.replicate 8 0
theorem zeros8_ok : Line8 zeros8 := ⟨rfl, by decide⟩

def lay (ws : List Nat) (ps : List (Nat × Nat)) : List Nat := ps.foldl (fun w p => w.set p.1 p.2) ws

theorem lay_ok : ∀ {ps : List (Nat × Nat)} {ws : List Nat}, Line8 ws → (∀ p ∈ ps, p.1 < 8 ∧ p.2 < 2 ^ 40) → Line8 (lay ws ps)
  | [], _, h, _ => h
  | p :: r, ws, h, hp => by
    have hp0 := hp p (by simp)
    refine lay_ok (ps := r) (ws := ws.set p.1 p.2) ⟨by simp [h.len], fun x hx => ?_⟩ (fun q hq => hp q (by simp [hq]))
    rcases List.mem_or_eq_of_mem_set hx with hx | rfl
    · exact h.word x hx
    · exact hp0.2

theorem lay_snoc (ws : List Nat) (ps : List (Nat × Nat)) (p : Nat × Nat) : lay ws (ps ++ [p]) = (lay ws ps).set p.1 p.2 := by simp [lay]

/-- What a line shows behind its first k pending stores; none: it is rotten. -/
def Ln.shows (l : Ln) (k : Nat) : Option (List Nat) := (fix l.ws l.code).map fun r => lay r.1 (l.pend.take k)

theorem Ln.Ok.shows {l : Ln} (h : l.Ok) {k : Nat} {ws : List Nat} (hs : l.shows k = some ws) : Line8 ws := by
  unfold Ln.shows at hs
  cases hf : fix l.ws l.code with
  | none => rw [hf] at hs; simp at hs
  | some r =>
    rw [hf] at hs
    simp only [Option.map_some, Option.some.injEq] at hs
    subst hs
    exact lay_ok (fix_line (vs := r.1) (c := r.2) h.ws h.code hf).1 fun p hp => h.pend p (List.mem_of_mem_take hp)

def Ln.shown (l : Ln) (k : Nat) : List Nat := (l.shows k).getD zeros8

theorem Ln.Ok.shown {l : Ln} (h : l.Ok) (k : Nat) : Line8 (l.shown k) := by
  unfold Ln.shown
  cases hs : l.shows k with
  | none => exact zeros8_ok
  | some ws => exact h.shows hs

def Ln.settle (l : Ln) (k : Nat) : Ln := if k = 0 then l else ⟨l.shown k, enc (l.shown k), l.pend.drop k, l.mark - k⟩

theorem Ln.Ok.settle {l : Ln} (h : l.Ok) (k : Nat) : (l.settle k).Ok := by
  unfold Ln.settle
  split
  · exact h
  · exact ⟨h.shown k, enc_lt _, fun p hp => h.pend p (List.mem_of_mem_drop hp), by have := h.mark; simp; omega⟩

/-- The memory. nev: how many events. -/
structure Mm where
  l : List Ln
  span : Nat
  nev : Nat

/-! Rows of equal length -/

theorem fm_get {α β : Type} {f : α → List β} {k : Nat} : ∀ {l : List α} {i : Nat} {a : α} {j : Nat} {v : β}, (∀ a ∈ l, (f a).length = k) → l[i]? = some a → (f a)[j]? = some v → (l.flatMap f)[i * k + j]? = some v
  | [], i, a, j, v, _, h, _ => by simp at h
  | x :: r, 0, a, j, v, hf, h, hv => by
    simp only [List.getElem?_cons_zero, Option.some.injEq] at h
    subst h
    rw [List.flatMap_cons, List.getElem?_append_left (by have := (List.getElem?_eq_some_iff.1 hv).1; omega)]
    simpa using hv
  | x :: r, i + 1, a, j, v, hf, h, hv => by
    have hx := hf x (by simp)
    rw [List.flatMap_cons, List.getElem?_append_right (by rw [hx, Nat.add_mul]; omega)]
    have := fm_get (l := r) (i := i) (fun a ha => hf a (by simp [ha])) (by simpa using h) hv
    rw [hx, show (i + 1) * k + j - k = i * k + j by rw [Nat.add_mul]; omega]
    exact this

theorem fm_len {α β : Type} {f : α → List β} {k : Nat} : ∀ {l : List α}, (∀ a ∈ l, (f a).length = k) → (l.flatMap f).length = l.length * k
  | [], _ => by simp
  | x :: r, hf => by
    rw [List.flatMap_cons, List.length_append, hf x (by simp), fm_len (fun a ha => hf a (by simp [ha])), List.length_cons, Nat.add_mul]
    omega

theorem fm_splice {α β : Type} {f : α → List β} {k o n : Nat} {vs : List β} (sp : List β → Nat → Nat → List β → List β) (hsp : sp = fun l o n vs => l.take o ++ (vs ++ l.drop (o + n))) :
    ∀ {l : List α} {i : Nat} {a a' : α}, (∀ a ∈ l, (f a).length = k) → l[i]? = some a → o + n ≤ k → f a' = sp (f a) o n vs → sp (l.flatMap f) (i * k + o) n vs = (l.set i a').flatMap f := by
  subst hsp
  intro l
  induction l with
  | nil => intro i a a' _ h; simp at h
  | cons x r ih =>
    intro i a a' hf h ho ha
    have hx := hf x (by simp)
    cases i with
    | zero =>
      simp only [List.getElem?_cons_zero, Option.some.injEq] at h
      subst h
      simp only [Nat.zero_mul, Nat.zero_add, List.flatMap_cons, List.set_cons_zero, ha]
      rw [List.take_append_of_le_length (by omega), List.drop_append_of_le_length (by omega)]
      simp
    | succ i =>
      have := ih (i := i) (a := a) (a' := a') (fun a ha => hf a (by simp [ha])) (by simpa using h) ho ha
      simp only [List.set_cons_succ, List.flatMap_cons, ← this]
      have e1 : (i + 1) * k + o = (f x).length + (i * k + o) := by rw [hx, Nat.add_mul]; omega
      have e2 : (i + 1) * k + o + n = (f x).length + (i * k + o + n) := by omega
      rw [e2, e1, List.take_length_add_append, List.drop_length_add_append]
      simp

/-! The heap -/

def pcells (ps : List (Nat × Nat)) : List Value := ps.flatMap fun p => [.int .i64 (p.1 : Nat), .int .i64 (p.2 : Nat)]

theorem pcells_len (ps : List (Nat × Nat)) : (pcells ps).length = ps.length * 2 := fm_len (fun _ _ => rfl)
theorem pcells_one (ps : List (Nat × Nat)) : (pcells ps).all E.one = true := by
  rw [List.all_eq_true]
  intro x hx
  simp only [pcells, List.mem_flatMap, List.mem_cons, List.not_mem_nil, or_false] at hx
  obtain ⟨p, _, rfl | rfl⟩ := hx <;> rfl

def lcells (r : Ln × Value) : List Value := wcells r.1.ws ++ [.int .i64 (r.1.code : Nat), r.2, .int .i64 (r.1.mark : Nat)]

theorem lcells_len {r : Ln × Value} (h : r.1.Ok) : (lcells r).length = 11 := by simp [lcells, wcells_len h.ws]

theorem get_tail {l t : List Value} (n : Nat) (h : l.length = n) (j : Nat) : (l ++ t)[n + j]? = t[j]? := by
  rw [← h, List.getElem?_append_right (by omega)]; simp

theorem lcells_code {r : Ln × Value} (h : r.1.Ok) : (lcells r)[8]? = some (.int .i64 (r.1.code : Nat)) := get_tail 8 (wcells_len h.ws) 0
theorem lcells_pend {r : Ln × Value} (h : r.1.Ok) : (lcells r)[9]? = some r.2 := get_tail 8 (wcells_len h.ws) 1
theorem lcells_mark {r : Ln × Value} (h : r.1.Ok) : (lcells r)[10]? = some (.int .i64 (r.1.mark : Nat)) := get_tail 8 (wcells_len h.ws) 2

def busyM (rows : List (Ln × Value)) : Int → Option Value
  | .ofNat n => match rows[n]? with
    | some r => if r.1.pend = [] then none else some (.bool true)
    | none => none
  | _ => none

def foot (p bl bm : Nat) (rows : List (Ln × Value)) (evv : Value) : List Nat := p :: bl :: bm :: (evv.ownBlock.toList ++ rows.flatMap fun r => r.2.ownBlock.toList)

/-- The memory lies at block p; of its map of the busy lines nothing is said. -/
structure MemX (w : World) (p bl bm : Nat) (rows : List (Ln × Value)) (evv : Value) (span nev : Nat) : Prop where
  head : Blk w p [.slice (some ⟨bl, 0, none⟩) rows.length rows.length, .map (some bm), .int .i64 (span : Nat), evv] 120
  lines : Blk w bl (rows.flatMap lcells) 115
  pend : ∀ r ∈ rows, Row w 123 2 r.2 r.1.pend.length (pcells r.1.pend)
  evs : ∃ xs, Row w 127 12 evv nev xs
  ok : ∀ r ∈ rows, r.1.Ok
  nodup : (foot p bl bm rows evv).Nodup
  ge : ∀ b ∈ foot p bl bm rows evv, 4 ≤ b
  small : rows.length ≤ 4096
  bmlt : bm < w.heap.size

/-- The memory M lies at block p; F: its blocks. -/
def Mem (w : World) (p : Nat) (M : Mm) (F : List Nat) : Prop := ∃ bl bm rows evv, MemX w p bl bm rows evv M.span M.nev ∧ IM w bm (busyM rows) ∧ M.l = rows.map (·.1) ∧ F = foot p bl bm rows evv

/-- From w to w': the blocks of F may have changed; F' are blocks of F, or new ones. -/
structure Step (w w' : World) (F F' : List Nat) : Prop where
  tr : Tr F w w'
  sub : ∀ b ∈ F', b ∈ F ∨ w.heap.size ≤ b

theorem Step.refl (w : World) (F : List Nat) : Step w w F F := ⟨Tr.refl _ _, fun _ h => .inl h⟩
theorem Step.trans {w w1 w2 : World} {F F1 F2 : List Nat} (h : Step w w1 F F1) (h' : Step w1 w2 F1 F2) : Step w w2 F F2 :=
  ⟨h.tr.trans h'.tr (fun _ h => h) (fun b hb hlt => (h.sub b hb).resolve_right (by omega)), fun b hb => by
    rcases h'.sub b hb with hb | hb
    · exact h.sub b hb
    · exact .inr (Nat.le_trans h.tr.size hb)⟩
theorem Step.ext {w w1 w2 : World} {F F1 : List Nat} (h : Step w w1 F F1) (t : Tr [] w1 w2) : Step w w2 F F1 :=
  ⟨h.tr.trans t (fun _ h => h) (fun _ h _ => by cases h), h.sub⟩
theorem Step.of_ext {w w1 w2 : World} {F F1 : List Nat} (t : Tr [] w w1) (h : Step w1 w2 F F1) : Step w w2 F F1 :=
  ⟨t.trans h.tr (fun _ h => by cases h) (fun _ h _ => h), fun b hb => (h.sub b hb).imp_right (Nat.le_trans t.size)⟩

theorem Row.lt {w : World} {e size n : Nat} {v : Value} {xs : List Value} (h : Row w e size v n xs) {b : Nat} (hb : v.ownBlock = some b) : b < w.heap.size := by
  obtain ⟨_, h2 | ⟨g, cap, cur, rfl, _, h4, _⟩⟩ := h
  · rw [h2.1] at hb; simp [Value.ownBlock] at hb
  · simp only [Value.ownBlock, Option.some.injEq] at hb
    subst hb
    exact lt_of_get h4

namespace MemX
variable {w : World} {p bl bm : Nat} {rows : List (Ln × Value)} {evv : Value} {span nev : Nat}

theorem lens (h : MemX w p bl bm rows evv span nev) : ∀ r ∈ rows, (lcells r).length = 11 := fun r hr => lcells_len (h.ok r hr)

theorem tr (h : MemX w p bl bm rows evv span nev) {S : List Nat} {w' : World} (t : Tr S w w') (hS : ∀ b ∈ S, b ∉ foot p bl bm rows evv) : MemX w' p bl bm rows evv span nev := by
  have hin : ∀ b ∈ foot p bl bm rows evv, b ∉ S := fun b hb hs => hS b hs hb
  obtain ⟨xs, hxs⟩ := h.evs
  refine ⟨h.head.tr t (hin _ (by simp [foot])), h.lines.tr t (hin _ (by simp [foot])), fun r hr => Row.tr (h.pend r hr) t fun b hb => hin _ ?_, ⟨xs, Row.tr hxs t fun b hb => hin _ ?_⟩, h.ok, h.nodup, h.ge, h.small, Nat.lt_of_lt_of_le h.bmlt t.size⟩
  · simp only [foot, List.mem_cons, List.mem_append, List.mem_flatMap]
    exact .inr (.inr (.inr (.inr ⟨r, hr, by simp [hb]⟩)))
  · simp [foot, hb]

theorem ext (h : MemX w p bl bm rows evv span nev) {w' : World} (t : Tr [] w w') : MemX w' p bl bm rows evv span nev := h.tr t (by simp)

theorem foot_lt (h : MemX w p bl bm rows evv span nev) : ∀ b ∈ foot p bl bm rows evv, b < w.heap.size := by
  intro b hb
  simp only [foot, List.mem_cons, List.mem_append, List.mem_flatMap, Option.mem_toList] at hb
  rcases hb with rfl | rfl | rfl | hb | ⟨r, hr, hb⟩
  · exact h.head.lt
  · exact h.lines.lt
  · exact h.bmlt
  · obtain ⟨xs, hxs⟩ := h.evs
    exact Row.lt hxs hb
  · exact Row.lt (h.pend r hr) hb

theorem cell (h : MemX w p bl bm rows evv span nev) {i : Nat} {r : Ln × Value} (hr : rows[i]? = some r) {j : Nat} {v : Value} (hv : (lcells r)[j]? = some v) : w.cell? ⟨bl, i * 11 + j, none⟩ = some v :=
  h.lines.cell (fm_get h.lens hr hv)

/-- The words of a line. -/
theorem words (h : MemX w p bl bm rows evv span nev) {i : Nat} {r : Ln × Value} (hr : rows[i]? = some r) : Cells w bl (0 + i * 11 + 0 + 0) (wcells r.1.ws) := fun j v hv => by
  rw [show 0 + i * 11 + 0 + 0 + j = i * 11 + j by omega]
  refine h.cell hr ?_
  unfold lcells
  rw [List.getElem?_append_left (List.getElem?_eq_some_iff.1 hv).1]
  exact hv

/-- Words and code. -/
theorem line (h : MemX w p bl bm rows evv span nev) {i : Nat} {r : Ln × Value} (hr : rows[i]? = some r) : Cells w bl (0 + i * 11 + 0) (wcells r.1.ws ++ [.int .i64 (r.1.code : Nat)]) := fun j v hv => by
  rw [show 0 + i * 11 + 0 + j = i * 11 + j by omega]
  refine h.cell hr ?_
  have : lcells r = (wcells r.1.ws ++ [.int .i64 (r.1.code : Nat)]) ++ [r.2, .int .i64 (r.1.mark : Nat)] := by simp [lcells]
  rw [this, List.getElem?_append_left (List.getElem?_eq_some_iff.1 hv).1]
  exact hv

theorem code (h : MemX w p bl bm rows evv span nev) {i : Nat} {r : Ln × Value} (hr : rows[i]? = some r) : w.cell? ⟨bl, 0 + i * 11 + 0 + 8, none⟩ = some (.int .i64 (r.1.code : Nat)) := by
  rw [show 0 + i * 11 + 0 + 8 = i * 11 + 8 by omega]
  exact h.cell hr (lcells_code (h.ok r (List.mem_of_getElem? hr)))

theorem pcell (h : MemX w p bl bm rows evv span nev) {i : Nat} {r : Ln × Value} (hr : rows[i]? = some r) : w.cell? ⟨bl, 0 + i * 11 + 9, none⟩ = some r.2 := by
  rw [show 0 + i * 11 + 9 = i * 11 + 9 by omega]
  exact h.cell hr (lcells_pend (h.ok r (List.mem_of_getElem? hr)))

theorem mark (h : MemX w p bl bm rows evv span nev) {i : Nat} {r : Ln × Value} (hr : rows[i]? = some r) : w.cell? ⟨bl, 0 + i * 11 + 10, none⟩ = some (.int .i64 (r.1.mark : Nat)) := by
  rw [show 0 + i * 11 + 10 = i * 11 + 10 by omega]
  exact h.cell hr (lcells_mark (h.ok r (List.mem_of_getElem? hr)))

end MemX

end Go.Proofs.YthepaakejpbppaaGreatDoor

/- Contracts of the memory's functions that only read. -/
namespace Go.Proofs.YthepaakejpbppaaGreatDoor
open Go.E

section
variable {w : World} {p bl bm : Nat} {rows : List (Ln × Value)} {evv : Value} {span nev : Nat}

theorem has_calls (h : MemX w p bl bm rows evv span nev) (n : Int) :
    Calls cx.P 79 #[.pointer (some ⟨p, 0, none⟩), .int .i64 n] w (Ret fun v w' => v = .bool (decide (0 ≤ n ∧ n < rows.length)) ∧ w = w') := by
  refine calls_body cx_ok (args := [.pointer (some ⟨p, 0, none⟩), .int .i64 n]) Tryz.func79 rfl 16 rfl rfl [.tmp 4] rfl ?_
  refine ⟨fun h0 => ?_, fun h0 => ?_⟩
  · refine ⟨_, h.head.cell rfl, fun h1 => ?_, fun h1 => ?_⟩
    · exact ⟨by simp [h0, h1], rfl⟩
    · exact ⟨by simp [h1], rfl⟩
  · exact ⟨by simp [h0], rfl⟩

theorem word_calls (x : Int) (w : World) : Calls cx.P 126 #[.int .i64 x] w (Ret fun v w' => v = .bool (decide (0 ≤ x ∧ x ≤ 1099511627775)) ∧ w = w') := by
  refine calls_body cx_ok (args := [.int .i64 x]) Tryz.func126 rfl 9 rfl rfl [.tmp 2] rfl ?_
  refine ⟨fun h0 => ⟨fun h1 => ?_, fun h1 => ?_⟩, fun h0 => ?_⟩
  · exact ⟨by simp [h0, h1], rfl⟩
  · exact ⟨by simp [h1], rfl⟩
  · exact ⟨by simp [h0], rfl⟩

theorem MemX.gl (h : MemX w p bl bm rows evv span nev) (hg : Gl w) {S : List Nat} {w' : World} (t : Tr S w w') (hS : ∀ b ∈ S, b ∈ foot p bl bm rows evv) : Gl w' := hg.tr t fun b hb => h.ge b (hS b hb)

theorem State_calls (h : MemX w p bl bm rows evv span nev) (hg : Gl w) (i : Nat) {r : Ln × Value} (hr : rows[i]? = some r) :
    Calls cx.P 26 #[.pointer (some ⟨p, 0, none⟩), .int .i64 i] w (Ret fun v w' => v = .int .i64 ((chk r.1.ws r.1.code).state : Nat) ∧ Tr [] w w') := by
  have hi : i < rows.length := (List.getElem?_eq_some_iff.1 hr).1
  have hok := h.ok r (List.mem_of_getElem? hr)
  refine calls_body cx_ok (args := [.pointer (some ⟨p, 0, none⟩), .int .i64 i]) Tryz.func26 rfl 36 rfl rfl [.tmp 4] rfl ?_
  refine call (has_calls h i) ?_
  rintro v _ ⟨hv, rfl⟩
  rw [decide_eq_true (by omega)] at hv
  subst hv
  refine draw_rule cx_ok [] (Plan.takes [0, 1, 2, 3, 4, 5, 6, 7, 8, 9, 10, 11, 12, 13, 14, 15, 16, 17] (.one true 18 (Plan.takes [19, 20, 21, 22, 23, 24, 25] .done))) (by kernel_rfl) ?_
  intro w1 d
  refine ⟨_, fun w' t => t.cell (h.head.cell rfl) (by simp), i, rfl, hi, ?_⟩
  refine ⟨_, fun w' t => (h.words hr).tr t (by simp), wcells_len hok.ws, _, fun w' t => t.cell (h.head.cell rfl) (by simp), i, rfl, hi, _, fun w' t => t.cell (h.code hr) (by simp), ?_⟩
  refine ⟨?_, trivial⟩
  refine call (Check_calls r.1.ws hok.ws r.1.code hok.code w1 (hg.ext d.tr)) ?_
  rintro _ w2 ⟨rfl, t2⟩
  exact ⟨d.tr.ext t2, rfl, d.tr.ext t2⟩

def optCells : Option (List Nat) → List Value
  | some ws => wcells ws
  | none => wcells zeros8
def optErr : Option (List Nat) → Int
  | some _ => 0
  | none => 9

theorem pcells_get {ps : List (Nat × Nat)} {j : Nat} {q : Nat × Nat} (h : ps[j]? = some q) : (pcells ps)[j * 2]? = some (.int .i64 (q.1 : Nat)) ∧ (pcells ps)[j * 2 + 1]? = some (.int .i64 (q.2 : Nat)) := by
  have h0 := fm_get (f := fun p : Nat × Nat => [Value.int .i64 (p.1 : Nat), .int .i64 (p.2 : Nat)]) (k := 2) (j := 0) (fun _ _ => rfl) h rfl
  have h1 := fm_get (f := fun p : Nat × Nat => [Value.int .i64 (p.1 : Nat), .int .i64 (p.2 : Nat)]) (k := 2) (j := 1) (fun _ _ => rfl) h rfl
  exact ⟨h0, h1⟩

/-- The elements of a row. -/
theorem Row.elem {e size n : Nat} {v : Value} {xs : List Value} (h : Row w e size v n xs) : (v = .slice none 0 0 ∧ n = 0) ∨ ∃ g cap, v = .slice (some ⟨g, 0, none⟩) n cap ∧ n ≤ cap ∧ cap ≤ maxLen ∧ Cells w g 0 xs := by
  obtain ⟨h1, h2 | ⟨g, cap, cur, rfl, h3, h4, h5, h6, h7, h8⟩⟩ := h
  · exact .inl h2
  · refine .inr ⟨g, cap, rfl, h5, h6, fun i v hv => ?_⟩
    have hb : Blk w g cur.toList e := by unfold Blk; simpa using h4
    rw [Nat.zero_add]
    refine hb.cell ?_
    rw [← h8, List.getElem?_take] at hv
    split at hv
    · exact hv
    · cases hv

theorem Upd.whole {w w' : World} {b T n : Nat} {l vs : List Value} (u : Upd w b (.cells (splice l 0 n vs).toArray T) w') (hl : l.length = n) (hv : vs.length = n) : Blk w' b vs T := by
  have := u.blk
  rwa [splice_all hl hv] at this

def fixW : Option (List Nat × Nat) → List Nat
  | some q => q.1
  | none => zeros8
def fixC : Option (List Nat × Nat) → Nat
  | some q => q.2
  | none => 0
def fixE : Option (List Nat × Nat) → Int
  | some _ => 0
  | none => 9
theorem fixVal_eq (o : Option (List Nat × Nat)) : fixVal o = .tuple #[.agg (wcells (fixW o)).toArray, .int .i64 (fixC o : Nat), .int .i64 (fixE o)] := by
  rcases o with _ | ⟨a, b⟩ <;> rfl

theorem sadr_zero (g sz cap : Nat) : sadr g 0 0 sz cap = ⟨g, 0, none⟩ := by unfold sadr; split <;> simp

theorem wcells_zeros : wcells zeros8 = List.replicate 8 (.int .i64 0) := rfl

set_option maxHeartbeats 1000000 in
theorem shows_calls (h : MemX w p bl bm rows evv span nev) (hg : Gl w) (i k : Nat) {r : Ln × Value} (hr : rows[i]? = some r) (hk : k ≤ r.1.pend.length) :
    Calls cx.P 90 #[.pointer (some ⟨bl, 0 + i * 11, none⟩), .int .i64 k] w (Ret fun v w' => v = .tuple #[.agg (optCells (r.1.shows k)).toArray, .int .i64 (optErr (r.1.shows k))] ∧ Tr [] w w') := by
  have hok := h.ok r (List.mem_of_getElem? hr)
  have hrow := h.pend r (List.mem_of_getElem? hr)
  have hw8 : Line8 (fixW (fix r.1.ws r.1.code)) := by
    cases hf : fix r.1.ws r.1.code with
    | none => exact zeros8_ok
    | some q => exact (fix_line (vs := q.1) (c := q.2) hok.ws hok.code hf).1
  have hlw := wcells_len hw8
  refine calls_body cx_ok (args := [.pointer (some ⟨bl, 0 + i * 11, none⟩), .int .i64 k]) Tryz.func90 rfl 48 rfl rfl [.cell 4 69, .tmp 5] rfl ?_
  intro b4 w1 n1
  have e1 := n1.num; have z1 := n1.size
  have B4 : Blk w1 b4 (wcells zeros8) 69 := n1.blk
  refine cut_rule (α := Nat) (fun b6 => [(0, .pointer (some ⟨bl, 0 + i * 11, none⟩)), (1, .int .i64 k), (4, .pointer (some ⟨b4, 0, none⟩)), (6, .pointer (some ⟨b6, 0, none⟩)), (8, .int .i64 (fixE (fix r.1.ws r.1.code)))])
    (fun b6 W => Tr [] w1 W ∧ Blk W b6 (wcells (fixW (fix r.1.ws r.1.code))) 69 ∧ w1.heap.size ≤ b6) ?_ ?_
  · refine draw_rule cx_ok [] (Plan.takes [0, 1, 2, 3, 4, 5, 6, 7, 8, 9] (.alt true 10 (Plan.takes [11, 12, 13, 14] (.one true 15 (.one true 16 (Plan.takes [17, 18] .done))))
      (.alt true 15 (.one true 10 (Plan.takes [11, 12, 13, 14] (.one true 16 (Plan.takes [17, 18] .done)))) .stop))) (by kernel_rfl) ?_
    intro w2 d
    have zd := d.tr.size
    refine ⟨_, fun w' t => (h.words hr).tr (n1.tr.ext t) (by simp), wcells_len hok.ws, _, fun w' t => (n1.tr.ext t).cell (h.code hr) (by simp), ?_⟩
    refine ⟨?_, ?_, trivial⟩
    · refine call (Fix_calls r.1.ws hok.ws r.1.code hok.code w2 ((hg.ext n1.tr).ext d.tr)) ?_
      rintro v w3 ⟨hv, t3⟩
      rw [fixVal_eq] at hv
      subst hv
      refine ⟨d.tr.ext t3, ?_⟩
      refine ⟨?_, trivial⟩
      intro b6 w4 n6
      have e6 := n6.num; have z3 := t3.size; have z6 := n6.size
      refine ⟨(d.tr.ext t3).ext n6.tr, ?_⟩
      refine ⟨⟨_, _, n6.blk, hlw, by show 0 + 8 ≤ 8; decide, wcells_one _, fun w5 u5 => ?_⟩, trivial⟩
      have t5 := u5.ext ((d.tr.ext t3).ext n6.tr) (by omega)
      have B6 : Blk w5 b6 (wcells (fixW (fix r.1.ws r.1.code))) 69 := Upd.whole u5 rfl hlw
      exact ⟨t5, rfl, b6, ⟨rfl, rfl, rfl, rfl, rfl, trivial⟩, t5, B6, by omega⟩
    · intro b6 w3 n6
      have e6 := n6.num; have z6 := n6.size
      refine ⟨d.tr.ext n6.tr, ?_⟩
      refine ⟨?_, trivial⟩
      refine call (Fix_calls r.1.ws hok.ws r.1.code hok.code w3 (((hg.ext n1.tr).ext d.tr).ext n6.tr)) ?_
      rintro v w4 ⟨hv, t4⟩
      rw [fixVal_eq] at hv
      subst hv
      refine ⟨(d.tr.ext n6.tr).ext t4, ?_⟩
      refine ⟨⟨_, _, n6.blk.ext t4, hlw, by show 0 + 8 ≤ 8; decide, wcells_one _, fun w5 u5 => ?_⟩, trivial⟩
      have t5 := u5.ext ((d.tr.ext n6.tr).ext t4) (by omega)
      have B6 : Blk w5 b6 (wcells (fixW (fix r.1.ws r.1.code))) 69 := Upd.whole u5 rfl hlw
      exact ⟨t5, rfl, b6, ⟨rfl, rfl, rfl, rfl, rfl, trivial⟩, t5, B6, by omega⟩
  rintro b6 w2 ⟨t2, B6, hb6⟩
  have z2 := t2.size
  have C4 := B4.ext t2
  have tw2 := n1.tr.ext t2
  cases hf : fix r.1.ws r.1.code with
  | none =>
    have hsh : r.1.shows k = none := by unfold Ln.shows; rw [hf]; rfl
    rw [hsh]
    refine ⟨fun h => absurd h (by show ¬ ((9 : Int) = 0); decide), fun _ => ?_⟩
    refine ⟨_, rfl, _, _, C4, rfl, by show 0 + 8 ≤ 8; decide, rfl, fun w5 u5 => ⟨_, u5.blk.all, rfl, rfl, u5.ext tw2 (by omega)⟩⟩
  | some q =>
    have hsh : r.1.shows k = some (lay q.1 (r.1.pend.take k)) := by unfold Ln.shows; rw [hf]; rfl
    rw [hf] at B6 hw8
    rw [hsh]
    refine ⟨fun _ => ?_, fun h => absurd rfl h⟩
    have hpc := h.ext tw2 |>.pcell hr
    -- the end
    have fin : ∀ W : World, Tr [] w W → Tr [b6] w2 W → Blk W b6 (wcells (lay q.1 (r.1.pend.take k))) 69 →
        ∃ cs, Cells W b6 0 cs ∧ cs.length = 8 ∧ (StN W b4 0 8 cs.toArray.toList fun W' => ∃ cs2, Cells W' b4 0 cs2 ∧ cs2.length = 8 ∧
          (pack [.agg cs2.toArray, .int .i64 0] = .tuple #[.agg (optCells (some (lay q.1 (r.1.pend.take k)))).toArray, .int .i64 (optErr (some (lay q.1 (r.1.pend.take k))))] ∧ Tr [] w W')) := by
      intro W tW tW2 BW
      have hl8 : Line8 (lay q.1 (r.1.pend.take k)) := lay_ok hw8 fun p hp => hok.pend p (List.mem_of_mem_take hp)
      exact ⟨_, BW.all, wcells_len hl8, _, _, C4.tr tW2 (by simp; omega), wcells_len hl8, by show 0 + 8 ≤ 8; decide, wcells_one _, fun w5 u5 => ⟨_, (Upd.whole u5 rfl (wcells_len hl8)).all, wcells_len hl8, rfl, u5.ext tW (by omega)⟩⟩
    rcases Row.elem hrow with ⟨hv, hn⟩ | ⟨g, cap, hv, hn, hm, hcs⟩
    · obtain rfl : k = 0 := by omega
      rw [hv] at hpc
      refine ⟨_, hpc, 0, 0, rfl, rfl, by omega, by omega, ?_⟩
      refine loop_rule cx_ok (fun (_ : Unit) W => w2 = W) (fun _ => [(4, .pointer (some ⟨b4, 0, none⟩)), (6, .pointer (some ⟨b6, 0, none⟩)), (36, .int .i64 0), (37, .int .i64 0)]) (fun _ => 0) () ⟨rfl, rfl, rfl, rfl, trivial⟩ rfl ?_
      rintro _ _ rfl
      refine ⟨fun h => absurd h (by decide), fun _ => ?_⟩
      exact fin w2 tw2 (Tr.refl _ _) (by simpa [lay, fixW] using B6)
    rw [hv] at hpc
    refine ⟨_, hpc, 0, k, rfl, rfl, by omega, by omega, ?_⟩
    rw [sadr_zero]
    have hk63 : k ≤ 9223372036854775807 := by simp only [maxLen] at hm; omega
    refine loop_rule cx_ok (fun j W => j ≤ k ∧ Tr [] w W ∧ Tr [b6] w2 W ∧ Blk W b6 (wcells (lay q.1 (r.1.pend.take j))) 69)
      (fun j : Nat => [(4, .pointer (some ⟨b4, 0, none⟩)), (6, .pointer (some ⟨b6, 0, none⟩)), (35, .slice (some ⟨g, 0, none⟩) (k - 0) (cap - 0)), (36, .int .i64 k), (37, .int .i64 j)]) (fun j => k - j) 0 ⟨rfl, rfl, rfl, rfl, rfl, trivial⟩ ⟨by omega, tw2, Tr.refl _ _, by simpa [lay, fixW] using B6⟩ ?_
    rintro j W ⟨hj, tW, tW2, BW⟩
    have zW := tW2.size
    refine ⟨fun hlt => ?_, fun hge => ?_⟩
    · have hjk : j < k := by omega
      have hjp : j < r.1.pend.length := by omega
      have hq : r.1.pend[j]? = some r.1.pend[j] := List.getElem?_eq_getElem hjp
      obtain ⟨hc0, hc1⟩ := pcells_get hq
      have hqok := hok.pend _ (List.mem_of_getElem? hq)
      refine ⟨j, rfl, (by show j < k - 0; omega), [.int .i64 (r.1.pend[j].1 : Nat), .int .i64 (r.1.pend[j].2 : Nat)], ?_, rfl, ?_⟩
      · intro x v hx
        refine tW.cell ?_ (by simp)
        rcases x with _ | _ | x
        · simp only [List.getElem?_cons_zero, Option.some.injEq] at hx
          subst hx
          have := hcs _ _ hc0
          rw [Nat.zero_add] at this
          rw [show 0 + j * 2 + 0 = j * 2 by omega]; exact this
        · simp only [Nat.zero_add, List.getElem?_cons_succ, List.getElem?_cons_zero, Option.some.injEq] at hx
          subst hx
          have := hcs _ _ hc1
          rw [Nat.zero_add] at this
          rw [show 0 + j * 2 + (0 + 1) = j * 2 + 1 by omega]; exact this
        · simp at hx
      intro b10 w3 n10
      have e10 := n10.num; have z10 := n10.size
      refine ⟨_, _, n10.blk, rfl, by show 0 + 2 ≤ 2; decide, rfl, fun w4 u4 => ?_⟩
      have z4 := u4.size
      have B10 := u4.blk
      refine ⟨_, B10.cell rfl, _, B10.cell rfl, r.1.pend[j].1, rfl, hqok.1, ?_⟩
      have BW4 := (BW.ext n10.tr).tr u4.tr (by simp; have := BW.lt; omega)
      have hl8 : Line8 (lay q.1 (r.1.pend.take j)) := lay_ok hw8 fun p hp => hok.pend p (List.mem_of_mem_take hp)
      refine ⟨_, _, BW4, by rw [wcells_len hl8]; show 0 + r.1.pend[j].1 * 1 < 8; omega, rfl, fun w5 u5 => ?_⟩
      refine ⟨((j + 1 : Nat) : Int), by rw [w64 (by omega)]; omega, ?_⟩
      have t4 : Tr [] W w4 := u4.ext n10.tr (by omega)
      refine ⟨rfl, j + 1, ⟨rfl, rfl, rfl, rfl, rfl, trivial⟩, ⟨by omega, ?_, ?_, ?_⟩, by omega⟩
      · exact u5.ext (tW.ext t4) (by omega)
      · exact (tW2.trans t4 (fun _ h => h) (fun _ h _ => by cases h)).trans u5.tr (fun _ h => h) (fun _ h _ => h)
      · have := u5.blk
        rw [show 0 + r.1.pend[j].1 * 1 = r.1.pend[j].1 by omega, ← wcells_set, ← lay_snoc] at this
        rw [List.take_succ_eq_append_getElem hjp]
        exact this
    · obtain rfl : j = k := by omega
      exact fin W tW tW2 BW

theorem Row.slice {e size n : Nat} {v : Value} {xs : List Value} (h : Row w e size v n xs) : ∃ a c, v = .slice a n c := by
  rcases Row.elem h with ⟨rfl, rfl⟩ | ⟨g, cap, rfl, _⟩
  · exact ⟨_, _, rfl⟩
  · exact ⟨_, _, rfl⟩

/-- What Load returns of a word that there is. -/
def loadV (o : Option (List Nat)) (j : Nat) : Value :=
  match o with
  | some ws => .tuple #[.int .i64 (ws.getD j 0 : Nat), .int .i64 0]
  | none => .tuple #[.int .i64 0, .int .i64 9]

theorem Load_calls (h : MemX w p bl bm rows evv span nev) (hg : Gl w) (i j : Nat) (hj : j < 8) {r : Ln × Value} (hr : rows[i]? = some r) :
    Calls cx.P 59 #[.pointer (some ⟨p, 0, none⟩), .int .i64 (8 * i + j : Nat)] w (Ret fun v w' => v = loadV (r.1.shows r.1.pend.length) j ∧ Tr [] w w') := by
  have hi : i < rows.length := (List.getElem?_eq_some_iff.1 hr).1
  have hsm := h.small
  have hok := h.ok r (List.mem_of_getElem? hr)
  have hrow := h.pend r (List.mem_of_getElem? hr)
  obtain ⟨a, c, hv⟩ := Row.slice hrow
  have hpc := h.pcell hr
  rw [hv] at hpc
  have hdiv : IntKind.i64.wrap (((8 * i + j : Nat) : Int).tdiv 8) = (i : Int) := by rw [IntWalk.i64_quo _ _ (by omega)]; omega
  refine calls_body cx_ok (args := [.pointer (some ⟨p, 0, none⟩), .int .i64 (8 * i + j : Nat)]) Tryz.func59 rfl 41 rfl rfl [.tmp 4, .tmp 5] rfl ?_
  refine ⟨fun h0 => absurd h0 (by omega), fun _ => ?_⟩
  refine ⟨_, by decide, hdiv, ?_⟩
  refine call (has_calls h i) ?_
  rintro v _ ⟨hv', rfl⟩
  rw [decide_eq_true (by omega)] at hv'
  subst hv'
  refine ⟨_, h.head.cell rfl, _, by decide, hdiv, i, rfl, hi, _, hpc, ?_⟩
  refine call (shows_calls h hg i r.1.pend.length hr (Nat.le_refl _)) ?_
  rintro _ w1 ⟨rfl, t1⟩
  intro b7 w2 n7
  have e7 := n7.num; have z7 := n7.size; have z1 := t1.size
  obtain ⟨o, ho⟩ : ∃ o, o = r.1.shows r.1.pend.length := ⟨_, rfl⟩
  rw [← ho]
  have hlen : (optCells o).length = 8 := by
    rcases o with _ | ws
    · rfl
    · exact wcells_len (hok.shows ho.symm)
  have hone : (optCells o).all E.one = true := by
    rcases o with _ | ws
    · rfl
    · exact wcells_one _
  refine ⟨_, _, n7.blk, hlen, by show 0 + 8 ≤ 8; decide, hone, fun w3 u3 => ?_⟩
  have B7 : Blk w3 b7 (optCells o) 69 := Upd.whole u3 rfl hlen
  have t3 := u3.ext (t1.ext n7.tr) (by omega)
  rcases o with _ | ws
  · refine ⟨fun h0 => absurd h0 (by show ¬ ((9 : Int) = 0); decide), fun _ => ?_⟩
    exact ⟨rfl, t3⟩
  · refine ⟨fun _ => ?_, fun h0 => absurd rfl h0⟩
    obtain ⟨x, hx, hx40, hgd, hxc⟩ := (hok.shows ho.symm).at hj
    have hcell : w3.cell? ⟨b7, 0 + j * 1, none⟩ = some (.int .i64 (x : Nat)) := by
      rw [show 0 + j * 1 = j by omega]
      exact B7.cell hxc
    refine ⟨(j : Int), by decide, by rw [IntWalk.rem_in _ _ (by omega)]; omega, j, rfl, hj, _, hcell, ?_⟩
    · refine ⟨?_, t3⟩
      show _ = Value.tuple #[.int .i64 (ws.getD j 0 : Nat), .int .i64 0]
      rw [hgd]
      rfl

end

end Go.Proofs.YthepaakejpbppaaGreatDoor

/- Contracts of the memory's functions that write: note, rest, settle. -/
namespace Go.Proofs.YthepaakejpbppaaGreatDoor
open Go.E

/-! The blocks of the memory -/

theorem fm_disj {α : Type} {g : α → List Nat} : ∀ {l : List α}, (l.flatMap g).Nodup → ∀ {i j : Nat} {r s : α} {b : Nat}, l[i]? = some r → l[j]? = some s → b ∈ g r → b ∈ g s → i = j := by
  intro l
  induction l with
  | nil => intro _ i j r s b hi; simp at hi
  | cons x t ih =>
    intro h i j r s b hi hj hr hs
    rw [List.flatMap_cons, List.nodup_append] at h
    obtain ⟨_, h2, h3⟩ := h
    cases i with
    | zero =>
      cases j with
      | zero => rfl
      | succ j =>
        simp only [List.getElem?_cons_zero, Option.some.injEq, List.getElem?_cons_succ] at hi hj
        subst hi
        exact absurd rfl (h3 b hr b (List.mem_flatMap.2 ⟨s, List.mem_of_getElem? hj, hs⟩))
    | succ i =>
      cases j with
      | zero =>
        simp only [List.getElem?_cons_zero, Option.some.injEq, List.getElem?_cons_succ] at hi hj
        subst hj
        exact absurd rfl (h3 b hs b (List.mem_flatMap.2 ⟨r, List.mem_of_getElem? hi, hr⟩))
      | succ j =>
        simp only [List.getElem?_cons_succ] at hi hj
        rw [ih h2 hi hj hr hs]

theorem nodup_swap {A X B : List Nat} {o : Option Nat} {n : Nat} (h : (A ++ (X ++ B)).Nodup) (hlt : ∀ b ∈ A ++ (X ++ B), b < n) (ho : ∀ b, o = some b → b ∈ X ∨ n ≤ b) : (A ++ (o.toList ++ B)).Nodup := by
  have hAB : (A ++ B).Nodup := h.sublist (List.Sublist.append_left (List.sublist_append_right X B) A)
  cases o with
  | none => exact hAB
  | some b =>
    have hb : b ∉ A ++ B := by
      rcases ho b rfl with hX | hn
      · rw [List.nodup_append] at h
        obtain ⟨h1, h2, h3⟩ := h
        rw [List.nodup_append] at h2
        intro hm
        rcases List.mem_append.1 hm with hm | hm
        · exact absurd rfl (h3 b hm b (List.mem_append_left _ hX))
        · exact absurd rfl (h2.2.2 b hX b hm)
      · intro hm
        have := hlt b (by
          rcases List.mem_append.1 hm with hm | hm
          · exact List.mem_append_left _ hm
          · exact List.mem_append_right _ (List.mem_append_right _ hm))
        omega
    have hp : (A ++ ([b] ++ B)).Perm (b :: (A ++ B)) := by
      exact List.perm_middle (a := b) (l₁ := A) (l₂ := B)
    exact (hp.nodup_iff).2 (List.nodup_cons.2 ⟨hb, hAB⟩)

section
variable {w : World} {p bl bm : Nat} {rows : List (Ln × Value)} {evv : Value} {span nev : Nat}

def own2 (r : Ln × Value) : List Nat := r.2.ownBlock.toList

theorem foot_eq : foot p bl bm rows evv = [p, bl, bm] ++ (evv.ownBlock.toList ++ rows.flatMap own2) := rfl

theorem mem_own2 {r : Ln × Value} {b : Nat} : b ∈ own2 r ↔ r.2.ownBlock = some b := by simp [own2]

theorem foot_set {n : Nat} (hn : (foot p bl bm rows evv).Nodup) (hlt : ∀ b ∈ foot p bl bm rows evv, b < n) {i : Nat} {r r' : Ln × Value} (hr : rows[i]? = some r) (ho : ∀ b, r'.2.ownBlock = some b → r.2.ownBlock = some b ∨ n ≤ b) :
    (foot p bl bm (rows.set i r') evv).Nodup ∧ ∀ b ∈ foot p bl bm (rows.set i r') evv, b ∈ foot p bl bm rows evv ∨ n ≤ b := by
  have hi : i < rows.length := (List.getElem?_eq_some_iff.1 hr).1
  have hri : rows[i] = r := (List.getElem?_eq_some_iff.1 hr).2
  have e1 : rows.flatMap own2 = (rows.take i).flatMap own2 ++ (own2 r ++ (rows.drop (i + 1)).flatMap own2) := by
    conv => lhs; rw [← List.take_append_drop i rows, List.drop_eq_getElem_cons hi, hri]
    simp
  have e2 : (rows.set i r').flatMap own2 = (rows.take i).flatMap own2 ++ (r'.2.ownBlock.toList ++ (rows.drop (i + 1)).flatMap own2) := by
    rw [List.set_eq_take_append_cons_drop, if_pos hi]
    simp [own2]
  have f1 : foot p bl bm rows evv = ([p, bl, bm] ++ (evv.ownBlock.toList ++ (rows.take i).flatMap own2)) ++ (own2 r ++ (rows.drop (i + 1)).flatMap own2) := by rw [foot_eq, e1]; simp
  have f2 : foot p bl bm (rows.set i r') evv = ([p, bl, bm] ++ (evv.ownBlock.toList ++ (rows.take i).flatMap own2)) ++ (r'.2.ownBlock.toList ++ (rows.drop (i + 1)).flatMap own2) := by rw [foot_eq, e2]; simp
  rw [f1] at hn hlt
  rw [f1, f2]
  refine ⟨nodup_swap hn hlt fun b hb => (ho b hb).imp_left fun h => mem_own2.2 h, fun b hb => ?_⟩
  rcases List.mem_append.1 hb with hb | hb
  · exact .inl (List.mem_append_left _ hb)
  · rcases List.mem_append.1 hb with hb | hb
    · rcases ho b (by simpa using hb) with h | h
      · exact .inl (List.mem_append_right _ (List.mem_append_left _ (mem_own2.2 h)))
      · exact .inr h
    · exact .inl (List.mem_append_right _ (List.mem_append_right _ hb))

theorem foot_ev {n : Nat} (hn : (foot p bl bm rows evv).Nodup) (hlt : ∀ b ∈ foot p bl bm rows evv, b < n) {evv' : Value} (ho : ∀ b, evv'.ownBlock = some b → evv.ownBlock = some b ∨ n ≤ b) :
    (foot p bl bm rows evv').Nodup ∧ ∀ b ∈ foot p bl bm rows evv', b ∈ foot p bl bm rows evv ∨ n ≤ b := by
  rw [foot_eq] at hn hlt
  rw [foot_eq, foot_eq]
  refine ⟨nodup_swap hn hlt fun b hb => (ho b hb).imp_left fun h => by simp [h], fun b hb => ?_⟩
  rcases List.mem_append.1 hb with hb | hb
  · exact .inl (List.mem_append_left _ hb)
  · rcases List.mem_append.1 hb with hb | hb
    · rcases ho b (by simpa using hb) with h | h
      · exact .inl (List.mem_append_right _ (List.mem_append_left _ (by simp [h])))
      · exact .inr h
    · exact .inl (List.mem_append_right _ (List.mem_append_right _ hb))

theorem in_p : p ∈ foot p bl bm rows evv := by simp [foot]
theorem in_bl : bl ∈ foot p bl bm rows evv := by simp [foot]
theorem in_bm : bm ∈ foot p bl bm rows evv := by simp [foot]
theorem in_ev {b : Nat} (h : evv.ownBlock = some b) : b ∈ foot p bl bm rows evv := by simp [foot, h]
theorem in_row {i : Nat} {r : Ln × Value} (hr : rows[i]? = some r) {b : Nat} (h : r.2.ownBlock = some b) : b ∈ foot p bl bm rows evv := by
  rw [foot_eq]
  exact List.mem_append_right _ (List.mem_append_right _ (List.mem_flatMap.2 ⟨r, List.mem_of_getElem? hr, mem_own2.2 h⟩))

namespace MemX

theorem ne (h : MemX w p bl bm rows evv span nev) : p ≠ bl ∧ p ≠ bm ∧ bl ≠ bm := by
  have := h.nodup
  simp only [foot, List.nodup_cons, List.mem_cons, not_or] at this
  exact ⟨this.1.1, this.1.2.1, this.2.1.1⟩

theorem ev_ne (h : MemX w p bl bm rows evv span nev) {b : Nat} (hb : evv.ownBlock = some b) : b ≠ p ∧ b ≠ bl ∧ b ≠ bm ∧ ∀ (i : Nat) (r : Ln × Value), rows[i]? = some r → r.2.ownBlock ≠ some b := by
  have hn := h.nodup
  have hm : b ∈ evv.ownBlock.toList ++ rows.flatMap own2 := by simp [hb]
  have hn' := hn
  rw [foot_eq] at hn'
  simp only [foot, List.nodup_cons, List.mem_cons, not_or] at hn
  refine ⟨fun e => hn.1.2.2 (e ▸ hm), fun e => hn.2.1.2 (e ▸ hm), fun e => hn.2.2.1 (e ▸ hm), fun i r hr ho => ?_⟩
  rw [List.nodup_append] at hn'
  have := hn'.2.1
  rw [List.nodup_append] at this
  exact absurd rfl (this.2.2 b (by simp [hb]) b (List.mem_flatMap.2 ⟨r, List.mem_of_getElem? hr, mem_own2.2 ho⟩))

theorem row_ne (h : MemX w p bl bm rows evv span nev) {i : Nat} {r : Ln × Value} (hr : rows[i]? = some r) {b : Nat} (hb : r.2.ownBlock = some b) : b ≠ p ∧ b ≠ bl ∧ b ≠ bm ∧ evv.ownBlock ≠ some b ∧ ∀ (j : Nat) (s : Ln × Value), rows[j]? = some s → s.2.ownBlock = some b → i = j := by
  have hn := h.nodup
  have hm' : b ∈ rows.flatMap own2 := List.mem_flatMap.2 ⟨r, List.mem_of_getElem? hr, mem_own2.2 hb⟩
  have hm : b ∈ evv.ownBlock.toList ++ rows.flatMap own2 := List.mem_append_right _ hm'
  have hn' := hn
  rw [foot_eq] at hn'
  simp only [foot, List.nodup_cons, List.mem_cons, not_or] at hn
  refine ⟨fun e => hn.1.2.2 (e ▸ hm), fun e => hn.2.1.2 (e ▸ hm), fun e => hn.2.2.1 (e ▸ hm), fun ho => (h.ev_ne ho).2.2.2 i r hr hb, fun j s hs hsb => ?_⟩
  rw [List.nodup_append] at hn'
  have := hn'.2.1
  rw [List.nodup_append] at this
  exact fm_disj this.2.1 hr hs (mem_own2.2 hb) (mem_own2.2 hsb)

/-- One line is another. -/
theorem set (h : MemX w p bl bm rows evv span nev) {i : Nat} {r r' : Ln × Value} (hr : rows[i]? = some r) {w' : World} {S : List Nat} (t : Tr S w w') (hS : ∀ b ∈ S, b = bl ∨ b = bm ∨ r.2.ownBlock = some b)
    (hl : Blk w' bl ((rows.set i r').flatMap lcells) 115) (hp : Row w' 123 2 r'.2 r'.1.pend.length (pcells r'.1.pend)) (hok : r'.1.Ok) (hown : ∀ b, r'.2.ownBlock = some b → r.2.ownBlock = some b ∨ w.heap.size ≤ b) :
    MemX w' p bl bm (rows.set i r') evv span nev ∧ ∀ b ∈ foot p bl bm (rows.set i r') evv, b ∈ foot p bl bm rows evv ∨ w.heap.size ≤ b := by
  have hi : i < rows.length := (List.getElem?_eq_some_iff.1 hr).1
  obtain ⟨hf1, hf2⟩ := foot_set h.nodup h.foot_lt hr hown
  obtain ⟨n1, n2, n3⟩ := h.ne
  obtain ⟨xs, hxs⟩ := h.evs
  have hnp : p ∉ S := fun hm => by
    rcases hS p hm with e | e | e
    · exact n1 e
    · exact n2 e
    · exact (h.row_ne hr e).1 rfl
  refine ⟨⟨by rw [List.length_set]; exact h.head.tr t hnp, hl, fun s hs => ?_, ⟨xs, Row.tr hxs t fun b hb hm => ?_⟩, fun s hs => ?_, hf1, fun b hb => ?_, by rw [List.length_set]; exact h.small, Nat.lt_of_lt_of_le h.bmlt t.size⟩, hf2⟩
  · obtain ⟨j, hj⟩ := List.mem_iff_getElem?.1 hs
    rw [List.getElem?_set] at hj
    by_cases hij : i = j
    · subst hij
      rw [if_pos rfl, if_pos hi] at hj
      obtain rfl := Option.some.inj hj
      exact hp
    · rw [if_neg hij] at hj
      refine Row.tr (h.pend s (List.mem_of_getElem? hj)) t fun b hb hm => ?_
      have hsn := h.row_ne hj hb
      rcases hS b hm with e | e | e
      · exact hsn.2.1 e
      · exact hsn.2.2.1 e
      · exact hij (hsn.2.2.2.2 i r hr e).symm
  · have he := h.ev_ne hb
    rcases hS b hm with e | e | e
    · exact he.2.1 e
    · exact he.2.2.1 e
    · exact he.2.2.2 i r hr e
  · rcases List.mem_or_eq_of_mem_set hs with hs | rfl
    · exact h.ok s hs
    · exact hok
  · rcases hf2 b hb with hb | hb
    · exact h.ge b hb
    · have := h.ge p in_p
      have := h.foot_lt p in_p
      omega

/-- Other events. -/
theorem ev (h : MemX w p bl bm rows evv span nev) {w' : World} {S : List Nat} {evv' : Value} {n : Nat} {xs : List Value} (t : Tr S w w') (hS : ∀ b ∈ S, b = p ∨ evv.ownBlock = some b)
    (hh : Blk w' p [.slice (some ⟨bl, 0, none⟩) rows.length rows.length, .map (some bm), .int .i64 (span : Nat), evv'] 120) (he : Row w' 127 12 evv' n xs) (hown : ∀ b, evv'.ownBlock = some b → evv.ownBlock = some b ∨ w.heap.size ≤ b) :
    MemX w' p bl bm rows evv' span n ∧ ∀ b ∈ foot p bl bm rows evv', b ∈ foot p bl bm rows evv ∨ w.heap.size ≤ b := by
  obtain ⟨hf1, hf2⟩ := foot_ev h.nodup h.foot_lt hown
  obtain ⟨n1, n2, n3⟩ := h.ne
  refine ⟨⟨hh, h.lines.tr t fun hm => ?_, fun s hs => ?_, ⟨xs, he⟩, h.ok, hf1, fun b hb => ?_, h.small, Nat.lt_of_lt_of_le h.bmlt t.size⟩, hf2⟩
  · rcases hS bl hm with e | e
    · exact n1 e.symm
    · exact (h.ev_ne e).2.1 rfl
  · obtain ⟨j, hj⟩ := List.mem_iff_getElem?.1 hs
    refine Row.tr (h.pend s hs) t fun b hb hm => ?_
    have hsn := h.row_ne hj hb
    rcases hS b hm with e | e
    · exact hsn.1 e
    · exact hsn.2.2.2.1 e
  · rcases hf2 b hb with hb | hb
    · exact h.ge b hb
    · have := h.ge p in_p
      have := h.foot_lt p in_p
      omega

end MemX

/-! note -/

omit w p bl bm rows evv span nev in
theorem fill_one {sz : Nat} {z cs : List Value} (hz : z.length = sz) (hc : cs.length = sz) : fillL (fun i => some (i * sz, sz)) z [(0, .agg cs.toArray)] = some cs := by
  simp only [fillL, vcells, Nat.zero_mul, Nat.zero_add]
  rw [if_pos ⟨by simpa using hc, by omega⟩]
  rw [splice_all hz (by simpa using hc)]

theorem Row.one {w : World} {e size n : Nat} {v : Value} {xs : List Value} (h : Row w e size v n xs) : E.one v = true := by
  obtain ⟨a, c, rfl⟩ := Row.slice h
  rfl

theorem own_step {S : List Nat} {w0 w1 w2 : World} {v : Value} (t : Tr S w0 w1) (t' : Tr v.ownBlock.toList w1 w2) (hS : ∀ b, v.ownBlock = some b → b ∈ S ∨ w0.heap.size ≤ b) : Tr S w0 w2 :=
  t.trans t' (fun _ h => h) (fun b hb hlt => (hS b (by simpa using hb)).resolve_right (by omega))

theorem note_calls (h : MemX w p bl bm rows evv span nev) (hnev : nev < 549755813888) (cs : List Value) (hl : cs.length = 12) (h1 : cs.all E.one = true) :
    Calls cx.P 83 #[.pointer (some ⟨p, 0, none⟩), .agg cs.toArray] w (Ret fun _ w' => ∃ evv', MemX w' p bl bm rows evv' span (nev + 1) ∧ Tr (p :: evv.ownBlock.toList) w w' ∧ ∀ b ∈ foot p bl bm rows evv', b ∈ foot p bl bm rows evv ∨ w.heap.size ≤ b) := by
  obtain ⟨xs, hxs⟩ := h.evs
  refine calls_body cx_ok (args := [.pointer (some ⟨p, 0, none⟩), .agg cs.toArray]) Tryz.func83 rfl 14 rfl rfl [] rfl ?_
  intro b3 w1 n1
  have e1 := n1.num; have z1 := n1.size
  have hp := h.head.lt
  refine draw_rule cx_ok evv.ownBlock.toList (Plan.takes [0, 1, 2, 3, 4, 5] (.one true 6 (.one true 7 (.one true 8 (.one true 9 (.one false 10 .done)))))) (by kernel_rfl) ?_
  intro w2 d
  have zd := d.tr.size
  have hown : ∀ b ∈ evv.ownBlock.toList, b ≠ p ∧ b < w.heap.size := fun b hb => by
    have hb' : evv.ownBlock = some b := by simpa using hb
    exact ⟨(h.ev_ne hb').1, h.foot_lt b (in_ev hb')⟩
  have hpn : p ∉ evv.ownBlock.toList := fun hb => (hown p hb).1 rfl
  have hbn : b3 ∉ evv.ownBlock.toList := fun hb => by have := (hown b3 hb).2; omega
  refine ⟨_, fun w' t => t.cell ((h.head.ext n1.tr).cell rfl) hpn, cs, fun w' t => (show Blk w1 b3 cs _ from n1.blk).all.tr t hbn, hl, ?_⟩
  refine ⟨?_, trivial⟩
  refine ⟨cs, fill_one rfl hl, fun b6 w3 n3 => ⟨(d.tr.ext n3.tr).of_ext, ?_, trivial⟩⟩
  have e3 := n3.num; have z3 := n3.size
  have t3 : Tr [] w w3 := (n1.tr.ext d.tr).ext n3.tr
  refine append_own cx_ok (x := ⟨1, 24, false, [.slice none 0 0], .slice 127⟩) rfl rfl rfl (by decide) (Row.tr hxs t3 (by simp)) b6 0 1 1 cs hl n3.blk.all h1 (by omega) (by decide) ?_
  intro v' w4 hv' t4 hat _
  have t14 : Tr evv.ownBlock.toList w1 w4 := (d.tr.ext n3.tr).of_ext.trans t4 (fun _ h => h) (fun _ h _ => h)
  have z4 := t4.size
  have B4 := ((h.head.ext t3).tr t4 hpn)
  refine ⟨t14, ⟨t14, ⟨t14, ⟨⟨_, _, B4, by show 3 < 4; decide, Row.one hv', fun w5 u5 => ?_⟩, trivial⟩⟩, trivial⟩, trivial⟩
  have hne' : ∀ b, v'.ownBlock = some b → evv.ownBlock = some b ∨ w.heap.size ≤ b := fun b hb => by
    rcases hat with e | e
    · exact .inl (e ▸ hb)
    · rw [e] at hb
      obtain rfl := Option.some.inj hb
      exact .inr (by omega)
  have t5 : Tr (p :: evv.ownBlock.toList) w w5 := (t3.of_ext (S := p :: evv.ownBlock.toList)).trans (t4.trans u5.tr (S'' := p :: evv.ownBlock.toList) (fun b h => List.mem_cons_of_mem _ h) (fun b h _ => by simp at h; simp [h])) (fun _ h => h) (fun _ h _ => h)
  have hrow5 : Row w5 127 12 v' (nev + 1) (xs ++ cs) := Row.tr hv' u5.tr fun b hb hm => by
    have hbp : b = p := by simpa using hm
    subst hbp
    rcases hne' b hb with e | e
    · exact hpn (by simp [e])
    · omega
  obtain ⟨m1, m2⟩ := h.ev t5 (fun b hb => by simpa using hb) u5.blk hrow5 hne'
  exact ⟨v', m1, t5, m2⟩

end

end Go.Proofs.YthepaakejpbppaaGreatDoor

/- Contracts of slices.Clone, of rest and of settle. -/
namespace Go.Proofs.YthepaakejpbppaaGreatDoor
open Go.E

theorem eql_nil {t e : Nat} {x : TI} (ht : tget cx.tb t = some x) (hx : x.kd = .slice e) (p q : Operand) (a : Option Addr) (n c : Nat) (w : World) :
    (do eqGuard .eql t p q (.slice a n c) (.slice none 0 0); binOp .eql t (.slice a n c) (.slice none 0 0) : Sem Value).run cx.P w = .ok (.bool a.isNone) w := by
  have hu := run_under_slice cx_ok ht hx w
  have he : (Op.equal t (.slice a n c) (.slice none 0 0)).run cx.P w = .ok a.isNone w := by
    show (Op.equalIn (9999 + 1) t (.slice a n c) (.slice none 0 0)).run cx.P w = _
    unfold Op.equalIn
    simp only [Sem.run_bind, hu, Result.andThen_ok]
    cases a <;> rfl
  simp [eqGuard, binOp, he]

theorem row_empty {w w' : World} {b e size : Nat} (n : New w b (.cells ([] : List Value).toArray e) w') : Row w' e size (.slice (some ⟨b, 0, none⟩) 0 0) 0 [] :=
  ⟨by simp, .inr ⟨b, 0, #[], rfl, Nat.zero_le _, n.get, Nat.le_refl _, Nat.zero_le _, by simp, by simp⟩⟩

theorem clone_store_calls (w : World) (g o n c : Nat) (xs : List Value) (hl : xs.length = n * 2) (hc : Cells w g o xs) (h1 : xs.all E.one = true) (hn : n ≤ 1099511627776) :
    Calls cx.P 81 #[.slice (some ⟨g, o, none⟩) n c] w (Ret fun v w' => Row w' 123 2 v n xs ∧ Tr [] w w' ∧ ∃ b, v.ownBlock = some b ∧ w.heap.size ≤ b) := by
  refine calls_body cx_ok (args := [.slice (some ⟨g, o, none⟩) n c]) Tryz.func81 rfl 8 rfl rfl [.tmp 2] rfl ?_
  refine ⟨.bool false, w, eql_nil (t := 66) rfl rfl _ _ _ _ _ _, ?_⟩
  refine ⟨[], rfl, fun b w1 n1 => ?_⟩
  have e1 := n1.num; have z1 := n1.size
  refine append_own cx_ok (x := ⟨1, 24, false, [.slice none 0 0], .slice 123⟩) rfl rfl rfl (by decide) (row_empty n1) g o n c xs hl (hc.ext n1.tr) h1 (by omega) (by decide) ?_
  intro v w2 hv t2 hat _
  refine ⟨by simpa using hv, n1.tr.trans t2 (fun _ h => h) (fun c hc hlt => ?_), ?_⟩
  · simp [Value.ownBlock] at hc; omega
  · rcases hat with e | e
    · exact ⟨b, e, by omega⟩
    · exact ⟨_, e, by omega⟩

/-- What 'rest' does with the map of the busy lines: J is what is known of it ahead, J' behind. -/
structure Rest (bl bm : Nat) (i : Nat) (empty : Bool) (J J' : World → Prop) : Prop where
  keep : ∀ W W', J W → Tr [bl] W W' → J W'
  del : empty = true → ∀ W (ty : Nat) (K : Value → World → Prop), J W → (∀ o W', Upd W bm o W' → J' W' → K (.tuple #[]) W') → RunV cx.P (Builtin.delete_ #[117, 3] ty #[.map (some bm), .int .i64 (i : Nat)]) W K
  upd : empty = false → ∀ W (K : World → Prop), J W → (∀ o W', Upd W bm o W' → J' W' → K W') → RunU cx.P (Instr.mapUpdate 117 (.map (some bm)) (.int .i64 (i : Nat)) (.bool true)) W K

section
variable {w : World} {p bl bm : Nat} {rows : List (Ln × Value)} {evv : Value} {span nev : Nat}

theorem rest_calls {n : Nat} {sp ev : Value} (hh : Blk w p [.slice (some ⟨bl, 0, none⟩) n n, .map (some bm), sp, ev] 120) {i len c : Nat} {a : Option Addr} (hi : i < n)
    (hp : w.cell? ⟨bl, 0 + i * 11 + 9, none⟩ = some (.slice a len c)) {J J' : World → Prop} (hR : Rest bl bm i (decide (len = 0)) J J') (hJ : J w) :
    Calls cx.P 104 #[.pointer (some ⟨p, 0, none⟩), .int .i64 (i : Nat)] w (Ret fun _ w' => J' w' ∧ Tr [bm] w w') := by
  refine calls_body cx_ok (args := [.pointer (some ⟨p, 0, none⟩), .int .i64 (i : Nat)]) Tryz.func104 rfl 24 rfl rfl [] rfl ?_
  refine ⟨_, hh.cell rfl, i, rfl, hi, _, hp, fun h0 => ?_, fun h0 => ?_⟩
  · have h0' : len = 0 := by omega
    refine ⟨_, hh.cell rfl, ?_⟩
    exact hR.del (by simp [h0']) w _ _ hJ fun o w' u hJ' => ⟨hJ', u.tr⟩
  · have h0' : len ≠ 0 := by omega
    refine ⟨_, hh.cell rfl, ?_⟩
    exact hR.upd (by simp [h0']) w _ hJ fun o w' u hJ' => ⟨hJ', u.tr⟩

theorem pcells_drop (ps : List (Nat × Nat)) (k : Nat) : pcells (ps.drop k) = (pcells ps).drop (k * 2) := by
  induction ps generalizing k with
  | nil => simp [pcells]
  | cons p r ih =>
    cases k with
    | zero => simp
    | succ k =>
      have e : (k + 1) * 2 = k * 2 + 1 + 1 := by omega
      have e2 : pcells (p :: r) = .int .i64 (p.1 : Nat) :: .int .i64 (p.2 : Nat) :: pcells r := rfl
      rw [List.drop_succ_cons, ih k, e, e2, List.drop_succ_cons, List.drop_succ_cons]

theorem lcells_words (r : Ln × Value) (h : r.1.Ok) (ws : List Nat) (_h8 : Line8 ws) : lcells ({ r.1 with ws := ws }, r.2) = (lcells r).take 0 ++ (wcells ws ++ (lcells r).drop (0 + 8)) := by
  have hl := wcells_len h.ws
  simp only [lcells, List.take_zero, List.nil_append, Nat.zero_add]
  rw [List.drop_append_of_le_length (by omega), List.drop_of_length_le (by omega)]
  simp

theorem lcells_tail {r r' : Ln × Value} (hw : r'.1.ws = r.1.ws) (h : r.1.ws.length = 8) (j : Nat) (v : Value) (ht : [.int .i64 (r'.1.code : Nat), r'.2, .int .i64 (r'.1.mark : Nat)] = ([.int .i64 (r.1.code : Nat), r.2, .int .i64 (r.1.mark : Nat)] : List Value).set j v) (hj : j < 3) :
    lcells r' = (lcells r).set (8 + j) v := by
  have hl : (wcells r.1.ws).length = 8 := by simp [wcells, h]
  unfold lcells
  rw [hw, ht, List.set_append, if_neg (by omega), hl, Nat.add_sub_cancel_left]

/-- One cell of a line. -/
theorem line_set {L : List (Ln × Value)} (hL : ∀ r ∈ L, (lcells r).length = 11) {i j : Nat} {r r' : Ln × Value} {v : Value} (hr : L[i]? = some r) (hj : j < 11) (hs : lcells r' = (lcells r).set j v) :
    (L.flatMap lcells).set (i * 11 + j) v = (L.set i r').flatMap lcells := by
  have hlr := hL r (List.mem_of_getElem? hr)
  have hlen := fm_len hL
  have hi : i < L.length := (List.getElem?_eq_some_iff.1 hr).1
  have := fm_splice (f := lcells) (k := 11) (o := j) (n := 1) (vs := [v]) _ rfl hL hr (by omega) (a' := r') (by
    rw [hs, ← splice_one (by omega)]
    rfl)
  rw [← this]
  have h2 := splice_one (l := L.flatMap lcells) (o := i * 11 + j) (v := v) (by rw [hlen]; omega)
  rw [← h2]
  rfl

theorem line_words {L : List (Ln × Value)} (hL : ∀ r ∈ L, (lcells r).length = 11) {i : Nat} {r : Ln × Value} (hr : L[i]? = some r) (hok : r.1.Ok) (ws : List Nat) (h8 : Line8 ws) :
    splice (L.flatMap lcells) (i * 11) 8 (wcells ws) = (L.set i ({ r.1 with ws := ws }, r.2)).flatMap lcells := by
  have := fm_splice (f := lcells) (k := 11) (o := 0) (n := 8) (vs := wcells ws) _ rfl hL hr (by omega) (a' := ({ r.1 with ws := ws }, r.2)) (lcells_words r hok ws h8)
  rw [← this]
  rfl

theorem optCells_shown {l : Ln} {k : Nat} : optCells (l.shows k) = wcells (l.shown k) := by
  unfold Ln.shown
  cases l.shows k <;> rfl

end

end Go.Proofs.YthepaakejpbppaaGreatDoor

/- Contract of settle. -/
namespace Go.Proofs.YthepaakejpbppaaGreatDoor
open Go.E

theorem lens_set {L : List (Ln × Value)} (hL : ∀ r ∈ L, (lcells r).length = 11) {i : Nat} {r' : Ln × Value} (h : (lcells r').length = 11) : ∀ r ∈ L.set i r', (lcells r).length = 11 := fun r hr => by
  rcases List.mem_or_eq_of_mem_set hr with hr | rfl
  · exact hL r hr
  · exact h

theorem lw_cell {w : World} {bl T : Nat} {L : List (Ln × Value)} (hL : ∀ r ∈ L, (lcells r).length = 11) (B : Blk w bl (L.flatMap lcells) T) {i : Nat} {r : Ln × Value} (hr : L[i]? = some r) {j : Nat} {v : Value} (hv : (lcells r)[j]? = some v) :
    w.cell? ⟨bl, i * 11 + j, none⟩ = some v := B.cell (fm_get hL hr hv)

theorem lw_words {w : World} {bl T : Nat} {L : List (Ln × Value)} (hL : ∀ r ∈ L, (lcells r).length = 11) (B : Blk w bl (L.flatMap lcells) T) {i : Nat} {r : Ln × Value} (hr : L[i]? = some r) : Cells w bl (0 + i * 11 + 0 + 0) (wcells r.1.ws) := fun j v hv => by
  rw [show 0 + i * 11 + 0 + 0 + j = i * 11 + j by omega]
  refine lw_cell hL B hr ?_
  unfold lcells
  rw [List.getElem?_append_left (List.getElem?_eq_some_iff.1 hv).1]
  exact hv

theorem get_set {L : List (Ln × Value)} {i : Nat} {r : Ln × Value} (hi : i < L.length) : (L.set i r)[i]? = some r := by simp [hi]

theorem max_run (P : Program) (a b : Int) (t : Nat) (ats : Array TypeId) (w : World) : (Builtin.max_ ats t #[.int .i64 a, .int .i64 b]).run P w = .ok (.int .i64 (if b > a then b else a)) w := by
  simp [Builtin.max_, Builtin.max2]

section
variable {w : World} {p bl bm : Nat} {rows : List (Ln × Value)} {evv : Value} {span nev : Nat}

theorem settle0_calls (h : MemX w p bl bm rows evv span nev) (i : Nat) (hi : i < rows.length) :
    Calls cx.P 92 #[.pointer (some ⟨p, 0, none⟩), .int .i64 (i : Nat), .int .i64 (0 : Nat)] w (Ret fun _ w' => w = w') := by
  refine calls_body cx_ok (args := [.pointer (some ⟨p, 0, none⟩), .int .i64 (i : Nat), .int .i64 (0 : Nat)]) Tryz.func92 rfl 58 rfl rfl [] rfl ?_
  refine ⟨_, h.head.cell rfl, i, rfl, hi, fun _ => ?_, fun h0 => absurd rfl h0⟩
  rfl

set_option maxHeartbeats 1000000 in
theorem settle_calls (h : MemX w p bl bm rows evv span nev) (hg : Gl w) (i k : Nat) {r : Ln × Value} (hr : rows[i]? = some r) (hk : k ≤ r.1.pend.length) (hk0 : k ≠ 0) (hsm : r.1.pend.length ≤ 1099511627776)
    {J J' : World → Prop} (hR : Rest bl bm i (decide (r.1.pend.length - k = 0)) J J') (hJ : J w) :
    Calls cx.P 92 #[.pointer (some ⟨p, 0, none⟩), .int .i64 (i : Nat), .int .i64 (k : Nat)] w
      (Ret fun _ w' => ∃ v', MemX w' p bl bm (rows.set i (r.1.settle k, v')) evv span nev ∧ J' w' ∧ Tr [bl, bm] w w' ∧ ∀ b, v'.ownBlock = some b → w.heap.size ≤ b) := by
  have hi : i < rows.length := (List.getElem?_eq_some_iff.1 hr).1
  have hmem := List.mem_of_getElem? hr
  have hok := h.ok r hmem
  have hrow := h.pend r hmem
  have hL := h.lens
  have hlen := fm_len hL
  obtain ⟨n1, n2, n3⟩ := h.ne
  have hs8 := hok.shown k
  have hmark := hok.mark
  obtain ⟨L, hLd⟩ : ∃ L, L = rows.flatMap lcells := ⟨_, rfl⟩
  rcases Row.elem hrow with ⟨_, hn⟩ | ⟨g, cap, hv, hncap, hcapm, hcs⟩
  · omega
  have hgb : r.2.ownBlock = some g := by rw [hv]; rfl
  have hgl : g < w.heap.size := Row.lt hrow hgb
  obtain ⟨g1, g2, g3, _⟩ := h.row_ne hr hgb
  refine calls_body cx_ok (args := [.pointer (some ⟨p, 0, none⟩), .int .i64 (i : Nat), .int .i64 (k : Nat)]) Tryz.func92 rfl 58 rfl rfl [] rfl ?_
  refine ⟨_, h.head.cell rfl, i, rfl, hi, fun h0 => absurd h0 (by omega), fun _ => ?_⟩
  refine call (shows_calls h hg i k hr hk) ?_
  rintro _ w1 ⟨rfl, t1⟩
  have hso : (optCells (r.1.shows k)).length = 8 := by rw [optCells_shown]; exact wcells_len hs8
  refine ⟨_, _, h.lines.ext t1, hso, by rw [hlen]; show 0 + i * 11 + 0 + 0 + 8 ≤ _; omega, by rw [optCells_shown]; exact wcells_one _, fun w2 u2 => ?_⟩
  -- the words
  obtain ⟨r1, hr1⟩ : ∃ r1 : Ln × Value, r1 = ({ r.1 with ws := r.1.shown k }, r.2) := ⟨_, rfl⟩
  have ok1 : r1.1.Ok := by rw [hr1]; exact ⟨hs8, hok.code, hok.pend, hok.mark⟩
  have B2 : Blk w2 bl (splice (rows.flatMap lcells) (0 + i * 11 + 0 + 0) 8 (optCells (r.1.shows k))) 115 := u2.blk
  rw [show 0 + i * 11 + 0 + 0 = i * 11 by omega, optCells_shown, line_words hL hr hok _ hs8, ← hr1] at B2
  have hL1 := lens_set (i := i) hL (lcells_len ok1)
  have T2 : Tr [bl] w w2 := t1.of_ext.same u2.tr
  have hi1 : i < (rows.set i r1).length := by simpa using hi
  refine ⟨_, by simpa [hr1] using lw_words hL1 B2 (get_set hi), wcells_len hs8, ?_⟩
  have g2' : Gl w2 := hg.tr T2 (by simp; exact h.ge bl in_bl)
  refine call (Encode_calls (r.1.shown k) hs8 w2 g2') ?_
  rintro _ w3 ⟨rfl, t3⟩
  have B3 := B2.ext t3
  refine ⟨_, _, B3, by rw [fm_len hL1]; show 0 + i * 11 + 0 + 8 < _; omega, rfl, fun w4 u4 => ?_⟩
  -- the code
  obtain ⟨r2, hr2⟩ : ∃ r2 : Ln × Value, r2 = ({ r1.1 with code := enc (r.1.shown k) }, r1.2) := ⟨_, rfl⟩
  have ok2 : r2.1.Ok := by rw [hr2]; exact ⟨ok1.ws, enc_lt _, ok1.pend, ok1.mark⟩
  have B4 : Blk w4 bl (((rows.set i r1).flatMap lcells).set (0 + i * 11 + 0 + 8) (.int .i64 (enc (r.1.shown k) : Nat))) 115 := u4.blk
  rw [show 0 + i * 11 + 0 + 8 = i * 11 + 8 by omega, line_set (j := 8) (r' := r2) hL1 (get_set hi) (by omega) (lcells_tail (j := 0) (by rw [hr2]) ok1.ws.len _ (by rw [hr2]; rfl) (by omega)), List.set_set] at B4
  have hL2 := lens_set (i := i) hL (lcells_len ok2)
  have T4 : Tr [bl] w w4 := (T2.trans t3 (fun _ h => h) (fun _ h _ => by cases h)).same u4.tr
  have hp4 : w4.cell? ⟨bl, 0 + i * 11 + 9, none⟩ = some (.slice (some ⟨g, 0, none⟩) r.1.pend.length cap) := by
    rw [show 0 + i * 11 + 9 = i * 11 + 9 by omega]
    refine lw_cell hL2 B4 (get_set hi) ?_
    rw [lcells_pend ok2, hr2, hr1, ← hv]
  refine ⟨_, hp4, k, r.1.pend.length, rfl, rfl, hk, hncap, ?_⟩
  obtain ⟨o, ho, hco⟩ : ∃ o, sadr g 0 k 2 cap = ⟨g, o, none⟩ ∧ Cells w4 g o (pcells (r.1.pend.drop k)) := by
    unfold sadr
    by_cases hc : cap = k
    · rw [if_pos hc]
      refine ⟨0, rfl, ?_⟩
      rw [List.drop_of_length_le (by omega)]
      intro i v hv
      simp [pcells] at hv
    · rw [if_neg hc]
      refine ⟨0 + k * 2, rfl, fun j v hv => ?_⟩
      rw [pcells_drop, List.getElem?_drop] at hv
      have := hcs _ _ hv
      have := T4.cell this (by simp; omega)
      rw [show 0 + k * 2 + j = 0 + (k * 2 + j) by omega]
      exact this
  rw [show sadr g 0 k _ cap = _ from ho]
  refine call (clone_store_calls w4 g o (r.1.pend.length - k) (cap - k) (pcells (r.1.pend.drop k)) (by rw [pcells_len, List.length_drop]) hco (pcells_one _) (by omega)) ?_
  rintro v' w5 ⟨hv', t5, b', hb', hbf⟩
  have z4 := T4.size
  have B5 := B4.ext t5
  refine ⟨_, _, B5, by rw [fm_len hL2]; show 0 + i * 11 + 9 < _; simp; omega, Row.one hv', fun w6 u6 => ?_⟩
  -- the pending stores
  obtain ⟨r3, hr3⟩ : ∃ r3 : Ln × Value, r3 = ({ r2.1 with pend := r.1.pend.drop k }, v') := ⟨_, rfl⟩
  have hlen3 : (lcells r3).length = 11 := by
    have : r3.1.ws = r.1.shown k := by rw [hr3, hr2, hr1]
    simp [lcells, this, wcells_len hs8]
  have B6 : Blk w6 bl (((rows.set i r2).flatMap lcells).set (0 + i * 11 + 9) v') 115 := u6.blk
  rw [show 0 + i * 11 + 9 = i * 11 + 9 by omega, line_set (j := 9) (r' := r3) hL2 (get_set hi) (by omega) (lcells_tail (j := 1) (by rw [hr3]) ok2.ws.len _ (by rw [hr3]; rfl) (by omega)), List.set_set] at B6
  have hL3 := lens_set (i := i) hL hlen3
  have T6 : Tr [bl] w w6 := (T4.trans t5 (fun _ h => h) (fun _ h _ => by cases h)).same u6.tr
  have hm6 : w6.cell? ⟨bl, 0 + i * 11 + 10, none⟩ = some (.int .i64 (r.1.mark : Nat)) := by
    rw [show 0 + i * 11 + 10 = i * 11 + 10 by omega]
    refine lw_cell hL3 B6 (get_set hi) ?_
    have : (wcells r3.1.ws).length = 8 := by
      have : r3.1.ws = r.1.shown k := by rw [hr3, hr2, hr1]
      rw [this]; exact wcells_len hs8
    have h2 := get_tail (t := [.int .i64 (r3.1.code : Nat), r3.2, .int .i64 (r3.1.mark : Nat)]) 8 this 2
    unfold lcells
    rw [h2, hr3, hr2, hr1]
    rfl
  refine ⟨_, hm6, ((r.1.mark : Int) - k), by rw [w64 (by omega)], _, w6, max_run _ _ _ _ _ _, ?_⟩
  have hmx : (if ((r.1.mark : Int) - k) > 0 then ((r.1.mark : Int) - k) else 0) = ((r.1.mark - k : Nat) : Int) := by split <;> omega
  rw [hmx]
  refine ⟨_, _, B6, by rw [fm_len hL3]; show 0 + i * 11 + 10 < _; simp; omega, rfl, fun w7 u7 => ?_⟩
  have B7 : Blk w7 bl (((rows.set i r3).flatMap lcells).set (0 + i * 11 + 10) (.int .i64 (r.1.mark - k : Nat))) 115 := u7.blk
  have hset : r.1.settle k = ⟨r.1.shown k, enc (r.1.shown k), r.1.pend.drop k, r.1.mark - k⟩ := by unfold Ln.settle; rw [if_neg hk0]
  have hws3 : r3.1.ws = r.1.shown k := by rw [hr3, hr2, hr1]
  rw [show 0 + i * 11 + 10 = i * 11 + 10 by omega, line_set (j := 10) (r' := (r.1.settle k, v')) hL3 (get_set hi) (by omega) (lcells_tail (j := 2) (by rw [hset, hws3]) (by rw [hws3]; exact hs8.len) _ (by rw [hset, hr3, hr2, hr1]; rfl) (by omega)), List.set_set] at B7
  have T7 : Tr [bl] w w7 := T6.same u7.tr
  have ok4 := hok.settle k
  have hL4 := lens_set (i := i) (r' := (r.1.settle k, v')) hL (lcells_len ok4)
  obtain ⟨a, c, hvs⟩ := Row.slice hv'
  have hp7 : w7.cell? ⟨bl, 0 + i * 11 + 9, none⟩ = some (.slice a (r.1.pend.length - k) c) := by
    rw [show 0 + i * 11 + 9 = i * 11 + 9 by omega, ← hvs]
    exact lw_cell hL4 B7 (get_set hi) (lcells_pend ok4)
  have hv7 : Row w7 123 2 v' (r.1.pend.length - k) (pcells (r.1.pend.drop k)) := Row.tr (Row.tr hv' u6.tr (by intro b hb hm; simp at hm; rw [hb'] at hb; have := Option.some.inj hb; have := h.lines.lt; omega)) u7.tr (by intro b hb hm; simp at hm; rw [hb'] at hb; have := Option.some.inj hb; have := h.lines.lt; omega)
  refine call (rest_calls (h.head.tr T7 (by simp; exact n1)) hi hp7 hR (hR.keep _ _ hJ T7)) ?_
  rintro _ w8 ⟨hJ8, t8⟩
  have T8 : Tr [bl, bm] w w8 := T7.trans t8 (fun _ h => by simp at h; simp [h]) (fun _ h _ => by simp at h; simp [h])
  have hfresh : ∀ b, v'.ownBlock = some b → w.heap.size ≤ b := fun b hb => by rw [hb'] at hb; have := Option.some.inj hb; omega
  have hbm := h.bmlt
  have hrow8 : Row w8 123 2 v' (r.1.settle k).pend.length (pcells (r.1.settle k).pend) := by
    rw [hset]
    show Row w8 _ 2 v' (r.1.pend.drop k).length _
    rw [List.length_drop]
    exact Row.tr hv7 t8 fun b hb hm => by have := hfresh b hb; simp at hm; omega
  obtain ⟨m1, _⟩ := h.set hr T8 (fun b hb => by simp at hb; rcases hb with e | e <;> simp [e]) (B7.tr t8 (by simp; exact n3)) hrow8 ok4 (fun b hb => .inr (hfresh b hb))
  exact ⟨v', m1, hJ8, T8, hfresh⟩

end

end Go.Proofs.YthepaakejpbppaaGreatDoor

/- Contracts of Flush, put, Store and Fence. -/
namespace Go.Proofs.YthepaakejpbppaaGreatDoor
open Go.E

/-! The map of the busy lines -/

theorem busyM_set {rows : List (Ln × Value)} {i : Nat} {r' : Ln × Value} (hi : i < rows.length) : busyM (rows.set i r') = if r'.1.pend = [] then delM (busyM rows) (i : Nat) else setM (busyM rows) (i : Nat) (.bool true) := by
  funext k
  rcases k with n | n
  · show busyM (rows.set i r') ((n : Nat) : Int) = _
    by_cases hn : n = i
    · subst hn
      have : (rows.set n r')[n]? = some r' := by simp [hi]
      unfold busyM
      simp only [this]
      split <;> simp_all [delM, setM]
    · have h1 : (rows.set i r')[n]? = rows[n]? := by rw [List.getElem?_set, if_neg (fun e => hn e.symm)]
      have h2 : ¬ (Int.ofNat n = (i : Int)) := fun e => hn (Int.ofNat.inj e)
      have h3 : busyM (rows.set i r') (Int.ofNat n) = busyM rows (Int.ofNat n) := by unfold busyM; simp only [h1]
      show busyM (rows.set i r') (Int.ofNat n) = _
      rw [h3]
      split
      · simp only [delM, if_neg h2]
      · simp only [setM, if_neg h2]
  · have h2 : ¬ (Int.negSucc n = (i : Int)) := fun e => by have := e; omega
    split
    · simp only [delM, if_neg h2]; rfl
    · simp only [setM, if_neg h2]; rfl

theorem rest_im {bl bm i : Nat} {m : Int → Option Value} {empty : Bool} (hne : bl ≠ bm) : Rest bl bm i empty (fun W => IM W bm m) (fun W => IM W bm (if empty then delM m (i : Nat) else setM m (i : Nat) (.bool true))) where
  keep W W' h t := h.tr t (by simp; exact fun e => hne e.symm)
  del he W ty K h hK := map_delete cx_ok (x := ⟨1, 8, false, [.map none], .map 3 4⟩) rfl rfl rfl rfl rfl h _ fun o W' u h' => hK o W' u (by rw [he]; exact h')
  upd he W K h hK := map_update cx_ok (x := ⟨1, 8, false, [.map none], .map 3 4⟩) rfl rfl rfl rfl h _ _ fun o W' u h' => hK o W' u (by rw [he]; exact h')

theorem rest_ir {bl bm it i cnt : Nat} {m : Int → Option Value} {left : Int → Prop} {empty : Bool} (hne : bl ≠ bm) (hit : it ≠ bl) (hleft : ¬ left (i : Nat)) (hin : m (i : Nat) ≠ none) :
    Rest bl bm i empty (fun W => IR W bm it m left cnt) (fun W => ∃ cnt', cnt' ≤ cnt ∧ IR W bm it (if empty then delM m (i : Nat) else setM m (i : Nat) (.bool true)) left cnt') where
  keep W W' h t := h.tr t (by simp; exact fun e => hne e.symm) (by simp; exact hit)
  del he W ty K h hK := map_delete_in cx_ok (x := ⟨1, 8, false, [.map none], .map 3 4⟩) rfl rfl rfl rfl rfl h _ hleft fun o W' cnt' u hc h' => hK o W' u ⟨cnt', hc, by rw [he]; exact h'⟩
  upd he W K h hK := map_update_in cx_ok (x := ⟨1, 8, false, [.map none], .map 3 4⟩) rfl rfl rfl rfl h _ _ hin fun o W' u h' => hK o W' u ⟨cnt, Nat.le_refl _, by rw [he]; exact h'⟩

section
variable {w : World} {p bl bm : Nat} {rows : List (Ln × Value)} {evv : Value} {span nev : Nat}

/-- The whole memory. -/
structure MemW (w : World) (p bl bm : Nat) (rows : List (Ln × Value)) (evv : Value) (span nev : Nat) : Prop extends MemX w p bl bm rows evv span nev where
  busy : IM w bm (busyM rows)

theorem MemW.ext {w' : World} (h : MemW w p bl bm rows evv span nev) (t : Tr [] w w') : MemW w' p bl bm rows evv span nev := ⟨h.toMemX.ext t, h.busy.tr t (by simp)⟩

theorem MemW.note {w' : World} {evv' : Value} (h : MemW w p bl bm rows evv span nev) (hx : MemX w' p bl bm rows evv' span (nev + 1)) (t : Tr (p :: evv.ownBlock.toList) w w') : MemW w' p bl bm rows evv' span (nev + 1) :=
  ⟨hx, h.busy.tr t (by
    have := h.ne
    simp only [List.mem_cons, Option.mem_toList, not_or]
    exact ⟨fun e => this.2.1 e.symm, fun e => (h.ev_ne e).2.2.1 rfl⟩)⟩

def Ln.flush (l : Ln) : Ln := { l with mark := l.pend.length }
theorem Ln.Ok.flush {l : Ln} (h : l.Ok) : l.flush.Ok := ⟨h.ws, h.code, h.pend, Nat.le_refl _⟩

theorem Flush_body (h : MemW w p bl bm rows evv span nev) (hnev : nev < 549755813888) (i : Nat) {r : Ln × Value} (hr : rows[i]? = some r) :
    wpC cx none 29 Tryz.f53.body.get! (BodyQ cx [.tmp 4] fun v w' => v = .int .i64 0 ∧ ∃ evv', MemW w' p bl bm (rows.set i (r.1.flush, r.2)) evv' span (nev + 1) ∧ Step w w' (foot p bl bm rows evv) (foot p bl bm (rows.set i (r.1.flush, r.2)) evv'))
      (argsEnv 0 [.pointer (some ⟨p, 0, none⟩), .int .i64 (i : Nat)]) [] w := by
  have hi : i < rows.length := (List.getElem?_eq_some_iff.1 hr).1
  have hmem := List.mem_of_getElem? hr
  have hok := h.ok r hmem
  have hrow := h.pend r hmem
  have hL := h.lens
  obtain ⟨n1, n2, n3⟩ := h.ne
  obtain ⟨a, c, hv⟩ := Row.slice hrow
  have hpc := h.pcell hr
  rw [hv] at hpc
  refine call (has_calls h.toMemX i) ?_
  rintro v _ ⟨hv', rfl⟩
  rw [decide_eq_true (by omega)] at hv'
  subst hv'
  refine draw_rule cx_ok [] (Plan.takes [0, 1, 2, 3, 4, 5, 6, 7, 8, 9, 10, 11, 12, 13] (.one true 14 (.one true 15 (.one false 16 .done)))) (by kernel_rfl) ?_
  intro w1 d
  refine ⟨_, fun w' t => t.cell (h.head.cell rfl) (by simp), _, fun w' t => t.cell (h.head.cell rfl) (by simp), i, rfl, hi, _, fun w' t => t.cell hpc (by simp), ?_⟩
  refine ⟨⟨i, rfl, hi, d.tr, ?_⟩, trivial⟩
  refine ⟨⟨d.tr, ?_⟩, trivial⟩
  have B1 := h.lines.ext d.tr
  refine ⟨⟨_, _, B1, by rw [fm_len hL]; show 0 + i * 11 + 10 < _; omega, rfl, fun w2 u2 => ?_⟩, trivial⟩
  have B2 : Blk w2 bl ((rows.flatMap lcells).set (0 + i * 11 + 10) (.int .i64 (r.1.pend.length : Nat))) 115 := u2.blk
  rw [show 0 + i * 11 + 10 = i * 11 + 10 by omega, line_set (j := 10) (r' := (r.1.flush, r.2)) hL hr (by omega) (lcells_tail (r' := (r.1.flush, r.2)) (r := r) (j := 2) rfl hok.ws.len (.int .i64 (r.1.pend.length : Nat)) rfl (by omega))] at B2
  have t2 : Tr [bl] w w2 := d.tr.of_ext.same u2.tr
  have hrow2 : Row w2 123 2 r.2 r.1.flush.pend.length (pcells r.1.flush.pend) := Row.tr hrow t2 fun b hb hm => (h.row_ne hr hb).2.1 (by simpa using hm)
  obtain ⟨m2, f2⟩ := h.set hr t2 (fun b hb => .inl (by simpa using hb)) B2 hrow2 hok.flush (fun b hb => .inl hb)
  have hbusy : busyM (rows.set i (r.1.flush, r.2)) = busyM rows := by
    rw [busyM_set hi]
    have e : busyM rows = busyM (rows.set i r) := by
      rw [← (List.getElem?_eq_some_iff.1 hr).2, List.set_getElem_self]
    conv => rhs; rw [e, busyM_set hi]
    rfl
  have mw2 : MemW w2 p bl bm (rows.set i (r.1.flush, r.2)) evv span nev := ⟨m2, by rw [hbusy]; exact h.busy.tr t2 (by simp; exact fun e => n3 e.symm)⟩
  refine ⟨_, rfl, ?_⟩
  refine call (note_calls m2 hnev _ rfl rfl) ?_
  rintro _ w3 ⟨evv', m3, t3, f3⟩
  refine ⟨rfl, evv', mw2.note m3 t3, ?_⟩
  have s12 : Step w w2 (foot p bl bm rows evv) (foot p bl bm (rows.set i (r.1.flush, r.2)) evv) := ⟨t2.mono fun b hb _ => by simp at hb; rw [hb]; exact in_bl, f2⟩
  have s23 : Step w2 w3 (foot p bl bm (rows.set i (r.1.flush, r.2)) evv) (foot p bl bm (rows.set i (r.1.flush, r.2)) evv') := ⟨t3.mono fun b hb _ => by
    rcases List.mem_cons.1 hb with rfl | hb
    · exact in_p
    · exact in_ev (by simpa using hb), f3⟩
  exact s12.trans s23

end

end Go.Proofs.YthepaakejpbppaaGreatDoor

/- Contracts of put and Store. -/
namespace Go.Proofs.YthepaakejpbppaaGreatDoor
open Go.E

section
variable {w : World} {p bl bm : Nat} {rows : List (Ln × Value)} {evv : Value} {span nev : Nat}

def Ln.put (l : Ln) (j v : Nat) : Ln := { l with pend := l.pend ++ [(j, v)] }
theorem Ln.Ok.put {l : Ln} (h : l.Ok) {j v : Nat} (hj : j < 8) (hv : v < 2 ^ 40) : (l.put j v).Ok :=
  ⟨h.ws, h.code, fun p hp => by
    simp only [Ln.put, List.mem_append, List.mem_singleton] at hp
    rcases hp with hp | rfl
    · exact h.pend p hp
    · exact ⟨hj, hv⟩, by have := h.mark; simp [Ln.put]; omega⟩

theorem mapUpdate_busy {W : World} {m : Int → Option Value} (h : IM W bm m) (i : Nat) {K : World → Prop} (hK : ∀ o W', Upd W bm o W' → IM W' bm (setM m (i : Nat) (.bool true)) → K W') :
    RunU cx.P (Instr.mapUpdate 117 (.map (some bm)) (.int .i64 (i : Nat)) (.bool true)) W K :=
  map_update cx_ok (x := ⟨1, 8, false, [.map none], .map 3 4⟩) rfl rfl rfl rfl h _ _ hK

set_option maxHeartbeats 1000000 in
theorem put_calls (h : MemW w p bl bm rows evv span nev) (hg : Gl w) (hnev : nev < 549755813888) (kind : Int) (i j v : Nat) (hj : j < 8) (hv : v < 2 ^ 40) {r : Ln × Value} (hr : rows[i]? = some r) (hst : (chk r.1.ws r.1.code).state ≠ 2) (hsm : r.1.pend.length ≤ 549755813888) :
    Calls cx.P 95 #[.pointer (some ⟨p, 0, none⟩), .int .i64 kind, .int .i64 (8 * i + j : Nat), .int .i64 (v : Nat), .func (.func 83) #[.pointer (some ⟨p, 0, none⟩)] #[]] w
      (Ret fun x w' => x = .int .i64 0 ∧ ∃ v' evv', MemW w' p bl bm (rows.set i (r.1.put j v, v')) evv' span (nev + 1) ∧ Step w w' (foot p bl bm rows evv) (foot p bl bm (rows.set i (r.1.put j v, v')) evv')) := by
  have hi : i < rows.length := (List.getElem?_eq_some_iff.1 hr).1
  have hmem := List.mem_of_getElem? hr
  have hok := h.ok r hmem
  have hrow := h.pend r hmem
  have hL := h.lens
  have hsml := h.small
  obtain ⟨n1, n2, n3⟩ := h.ne
  have hpc := h.pcell hr
  have hdiv : IntKind.i64.wrap (((8 * i + j : Nat) : Int).tdiv 8) = (i : Int) := by rw [IntWalk.i64_quo _ _ (by omega)]; omega
  refine calls_body cx_ok (args := [.pointer (some ⟨p, 0, none⟩), .int .i64 kind, .int .i64 (8 * i + j : Nat), .int .i64 (v : Nat), .func (.func 83) #[.pointer (some ⟨p, 0, none⟩)] #[]]) Tryz.func95 rfl 68 rfl rfl [.tmp 10] rfl ?_
  refine ⟨_, by decide, hdiv, fun h0 => absurd h0 (by omega), fun _ => ?_⟩
  refine call (has_calls h.toMemX i) ?_
  rintro _ _ ⟨hx, rfl⟩
  rw [decide_eq_true (by omega)] at hx
  subst hx
  refine call (word_calls (v : Int) w) ?_
  rintro _ _ ⟨hx, rfl⟩
  rw [decide_eq_true (by omega)] at hx
  subst hx
  refine call (State_calls h.toMemX hg i hr) ?_
  rintro _ w1 ⟨rfl, t1⟩
  refine ⟨fun h0 => absurd h0 (by omega), fun _ => ?_⟩
  have h1 := h.ext t1
  have hrown : ∀ b ∈ r.2.ownBlock.toList, b ≠ p ∧ b ≠ bl ∧ b < w.heap.size := fun b hb => by
    have hb' : r.2.ownBlock = some b := by simpa using hb
    have := h.row_ne hr hb'
    exact ⟨this.1, this.2.1, h.foot_lt b (in_row hr hb')⟩
  have hpn : p ∉ r.2.ownBlock.toList := fun hb => (hrown p hb).1 rfl
  have hbln : bl ∉ r.2.ownBlock.toList := fun hb => (hrown bl hb).2.1 rfl
  refine draw_rule cx_ok r.2.ownBlock.toList (Plan.takes [0, 1, 2, 3, 4, 5, 6, 7, 8, 9, 10, 11, 12, 13, 14, 15, 16] (.one true 17 (.one true 18 (.one true 19 (.one true 20 (.one false 21 .done)))))) (by kernel_rfl) ?_
  intro w2 d
  have zd := d.tr.size; have z1 := t1.size
  refine ⟨_, fun w' t => t.cell (h1.head.cell rfl) hpn, _, fun w' t => t.cell (h1.head.cell rfl) hpn, i, rfl, hi, _, fun w' t => t.cell (t1.cell hpc (by simp)) hbln, ?_⟩
  refine ⟨(j : Int), by decide, by rw [IntWalk.rem_in _ _ (by omega)]; omega, _, rfl, ?_⟩
  refine ⟨⟨_, rfl, fun b6 w3 n3' => ⟨(d.tr.ext n3'.tr).of_ext, ?_⟩⟩, trivial⟩
  have e3 := n3'.num; have z3 := n3'.size
  have t3 : Tr [] w w3 := (t1.ext d.tr).ext n3'.tr
  refine ⟨?_, trivial⟩
  have hb6 : Cells w3 b6 0 (pcells [(j, v)]) := n3'.blk.all
  refine append_own cx_ok (x := ⟨1, 24, false, [.slice none 0 0], .slice 123⟩) rfl rfl rfl (by decide) (Row.tr hrow t3 (by simp)) b6 0 1 1 (pcells [(j, v)]) rfl hb6 rfl (by omega) (by decide) ?_
  intro v' w4 hv' t4 hat _
  have t14 : Tr r.2.ownBlock.toList w1 w4 := (d.tr.ext n3'.tr).of_ext.trans t4 (fun _ h => h) (fun _ h _ => h)
  have z4 := t4.size
  have B4 := (h1.lines.ext (d.tr.ext n3'.tr)).tr t4 hbln
  refine ⟨t14, ⟨⟨i, rfl, hi, t14, ?_⟩, trivial⟩⟩
  refine ⟨⟨t14, ?_⟩, trivial⟩
  refine ⟨⟨_, _, B4, by rw [fm_len hL]; show 0 + i * 11 + 9 < _; omega, Row.one hv', fun w5 u5 => ?_⟩, trivial⟩
  have B5 : Blk w5 bl ((rows.flatMap lcells).set (0 + i * 11 + 9) v') 115 := u5.blk
  rw [show 0 + i * 11 + 9 = i * 11 + 9 by omega, line_set (j := 9) (r' := (r.1.put j v, v')) hL hr (by omega) (lcells_tail (r' := (r.1.put j v, v')) (r := r) (j := 1) rfl hok.ws.len v' rfl (by omega))] at B5
  have hne' : ∀ b, v'.ownBlock = some b → r.2.ownBlock = some b ∨ w.heap.size ≤ b := fun b hb => by
    rcases hat with e | e
    · exact .inl (e ▸ hb)
    · rw [e] at hb
      obtain rfl := Option.some.inj hb
      exact .inr (by omega)
  have t5 : Tr (bl :: r.2.ownBlock.toList) w w5 := (t3.of_ext (S := bl :: r.2.ownBlock.toList)).trans (t4.trans u5.tr (S'' := bl :: r.2.ownBlock.toList) (fun b h => List.mem_cons_of_mem _ h) (fun b h _ => by simp at h; simp [h])) (fun _ h => h) (fun _ h _ => h)
  have hbmn : bm ∉ (bl :: r.2.ownBlock.toList) := by
    simp only [List.mem_cons, Option.mem_toList, not_or]
    exact ⟨fun e => n3 e.symm, fun e => (h.row_ne hr e).2.2.1 rfl⟩
  have hpn5 : p ∉ (bl :: r.2.ownBlock.toList) := by
    simp only [List.mem_cons, Option.mem_toList, not_or]
    exact ⟨n1, fun e => (h.row_ne hr e).1 rfl⟩
  have hfresh5 : ∀ b, v'.ownBlock = some b → b ≠ bl ∧ b ≠ bm := fun b hb => by
    rcases hne' b hb with e | e
    · exact ⟨(h.row_ne hr e).2.1, (h.row_ne hr e).2.2.1⟩
    · have := h.foot_lt bl in_bl
      have := h.bmlt
      exact ⟨by omega, by omega⟩
  have hrow5 : Row w5 123 2 v' (r.1.pend.length + 1) (pcells r.1.pend ++ pcells [(j, v)]) := Row.tr hv' u5.tr fun b hb hm => (hfresh5 b hb).1 (by simpa using hm)
  refine ⟨_, (h.head.tr t5 hpn5).cell rfl, ?_⟩
  refine mapUpdate_busy (h.busy.tr t5 hbmn) i fun o w6 u6 hm6 => ?_
  have t6 : Tr (bl :: bm :: r.2.ownBlock.toList) w w6 := t5.trans u6.tr (fun b h => by rcases List.mem_cons.1 h with rfl | h <;> simp_all) (fun b h _ => by simp at h; simp [h])
  have hrow6 : Row w6 123 2 v' (r.1.put j v).pend.length (pcells (r.1.put j v).pend) := by
    have e1 : (r.1.put j v).pend.length = r.1.pend.length + 1 := by simp [Ln.put]
    have e2 : pcells (r.1.put j v).pend = pcells r.1.pend ++ pcells [(j, v)] := by simp [Ln.put, pcells]
    rw [e1, e2]
    exact Row.tr hrow5 u6.tr fun b hb hm => (hfresh5 b hb).2 (by simpa using hm)
  obtain ⟨m6, f6⟩ := h.toMemX.set hr t6 (fun b hb => by simpa using hb) (B5.tr u6.tr (by simp; exact n3)) hrow6 (hok.put hj hv) hne'
  have mw6 : MemW w6 p bl bm (rows.set i (r.1.put j v, v')) evv span nev := ⟨m6, by rw [busyM_set hi, if_neg (by simp [Ln.put])]; exact hm6⟩
  refine ⟨_, m6.head.cell rfl, _, rfl, ?_⟩
  refine call (note_calls m6 hnev _ rfl rfl) ?_
  rintro _ w7 ⟨evv', m7, t7, f7⟩
  refine ⟨rfl, v', evv', mw6.note m7 t7, ?_⟩
  have s1 : Step w w6 (foot p bl bm rows evv) (foot p bl bm (rows.set i (r.1.put j v, v')) evv) := ⟨t6.mono fun b hb _ => by
    simp only [List.mem_cons, Option.mem_toList] at hb
    rcases hb with rfl | rfl | hb
    · exact in_bl
    · exact in_bm
    · exact in_row hr hb, f6⟩
  have s2 : Step w6 w7 (foot p bl bm (rows.set i (r.1.put j v, v')) evv) (foot p bl bm (rows.set i (r.1.put j v, v')) evv') := ⟨t7.mono fun b hb _ => by
    rcases List.mem_cons.1 hb with rfl | hb
    · exact in_p
    · exact in_ev (by simpa using hb), f7⟩
  exact s1.trans s2

theorem Store_calls (h : MemW w p bl bm rows evv span nev) (hg : Gl w) (hnev : nev < 549755813888) (i j v : Nat) (hj : j < 8) (hv : v < 2 ^ 40) {r : Ln × Value} (hr : rows[i]? = some r) (hst : (chk r.1.ws r.1.code).state ≠ 2) (hsm : r.1.pend.length ≤ 549755813888) :
    Calls cx.P 47 #[.pointer (some ⟨p, 0, none⟩), .int .i64 (8 * i + j : Nat), .int .i64 (v : Nat)] w
      (Ret fun x w' => x = .int .i64 0 ∧ ∃ v' evv', MemW w' p bl bm (rows.set i (r.1.put j v, v')) evv' span (nev + 1) ∧ Step w w' (foot p bl bm rows evv) (foot p bl bm (rows.set i (r.1.put j v, v')) evv')) := by
  refine calls_body cx_ok (args := [.pointer (some ⟨p, 0, none⟩), .int .i64 (8 * i + j : Nat), .int .i64 (v : Nat)]) Tryz.func47 rfl 13 rfl rfl [.tmp 6] rfl ?_
  refine call (put_calls h hg hnev 1 i j v hj hv hr hst hsm) ?_
  rintro _ w1 ⟨rfl, h1⟩
  exact ⟨rfl, h1⟩

end

end Go.Proofs.YthepaakejpbppaaGreatDoor

/- Contract of Fence. -/
namespace Go.Proofs.YthepaakejpbppaaGreatDoor
open Go.E

theorem busy_some {rows : List (Ln × Value)} {k : Int} {v : Value} (h : busyM rows k = some v) : ∃ i r, k = ((i : Nat) : Int) ∧ rows[i]? = some r ∧ r.1.pend ≠ [] := by
  rcases k with n | n
  · unfold busyM at h
    dsimp only at h
    split at h
    · rename_i r hr
      split at h
      · cases h
      · rename_i hp
        exact ⟨n, r, rfl, hr, hp⟩
    · cases h
  · cases h

theorem busy_iff {rows : List (Ln × Value)} {i : Nat} {r : Ln × Value} (hr : rows[i]? = some r) : busyM rows (i : Nat) ≠ none ↔ r.1.pend ≠ [] := by
  show busyM rows (Int.ofNat i) ≠ none ↔ _
  unfold busyM
  simp only [hr]
  split <;> simp_all

theorem settle_none {l : Ln} (h : l.Ok) (hp : l.pend = []) : l.settle l.mark = l := by
  have := h.mark
  rw [hp] at this
  have h0 : l.mark = 0 := by simpa using this
  unfold Ln.settle
  rw [if_pos h0]

section
variable {w : World} {p bl bm : Nat} {rows : List (Ln × Value)} {evv : Value} {span nev : Nat}

/-- The state of the loop: the rows now, which keys are to come, how many at most. -/
structure FS where
  rows : List (Ln × Value)
  left : Int → Prop
  cnt : Nat

structure FI (w : World) (p bl bm it : Nat) (rows : List (Ln × Value)) (evv : Value) (span nev : Nat) (s : FS) (W : World) : Prop where
  mem : MemX W p bl bm s.rows evv span nev
  ir : IR W bm it (busyM s.rows) s.left s.cnt
  step : Step w W (foot p bl bm rows evv) (foot p bl bm s.rows evv)
  len : s.rows.length = rows.length
  rel : ∀ i r0, rows[i]? = some r0 → ∃ r, s.rows[i]? = some r ∧ (s.left ((i : Nat) : Int) → r.1 = r0.1) ∧ (¬ s.left ((i : Nat) : Int) → r.1 = r0.1.settle r0.1.mark)

set_option maxHeartbeats 1000000 in
theorem Fence_body (h : MemW w p bl bm rows evv span nev) (hg : Gl w) (hnev : nev < 549755813888) (hsm : ∀ r ∈ rows, r.1.pend.length ≤ 1099511627776) :
    wpC cx none 26 Tryz.f35.body.get! (BodyQ cx [] fun _ w' => ∃ rows' evv', rows'.map (·.1) = rows.map (fun r => r.1.settle r.1.mark) ∧ MemW w' p bl bm rows' evv' span (nev + 1) ∧ Step w w' (foot p bl bm rows evv) (foot p bl bm rows' evv'))
      (argsEnv 0 [.pointer (some ⟨p, 0, none⟩)]) [] w := by
  obtain ⟨n1, n2, n3⟩ := h.ne
  refine ⟨_, h.head.cell rfl, ?_⟩
  refine map_range cx_ok (x := ⟨1, 8, false, [.map none], .map 3 4⟩) rfl rfl h.busy fun it o w1 cnt n1' hir => ?_
  have e1 := n1'.num; have z1 := n1'.size
  have hlt := h.foot_lt
  have hitbl : it ≠ bl := by have := hlt bl in_bl; omega
  have hitp : it ≠ p := by have := hlt p in_p; omega
  have hitbm : it ≠ bm := by have := h.bmlt; omega
  refine loop_rule cx_ok (fun s W => FI w p bl bm it rows evv span nev s W ∧ it < W.heap.size ∧ it ∉ foot p bl bm s.rows evv) (fun _ => [(0, .pointer (some ⟨p, 0, none⟩)), (7, .pointer (some ⟨it, 0, none⟩))]) (fun s => s.cnt) ⟨rows, fun k => busyM rows k ≠ none, cnt⟩ ⟨rfl, rfl, trivial⟩
    ⟨⟨h.toMemX.ext n1'.tr, hir, ⟨n1'.tr.of_ext, fun b hb => .inl hb⟩, rfl, fun i r0 hr0 => ⟨r0, hr0, fun _ => rfl, fun hl => ?_⟩⟩, by omega, fun hm => by have := hlt it hm; omega⟩ ?_
  · have hp : r0.1.pend = [] := Decidable.byContradiction fun hp => hl ((busy_iff hr0).2 hp)
    exact (settle_none (h.ok r0 (List.mem_of_getElem? hr0)) hp).symm
  rintro ⟨R, left, cnt⟩ W ⟨⟨hm, hi, hs, hlen, hrel⟩, hitW, hitF⟩
  refine map_next hi (fun hdone => ?_) (fun k v W1 cnt' hk hmk hcnt t1 hi1 hent => ?_)
  · -- the end
    have hmap : R.map (·.1) = rows.map (fun r => r.1.settle r.1.mark) := by
      apply List.ext_getElem?
      intro i
      simp only [List.getElem?_map]
      cases hr0 : rows[i]? with
      | none =>
        have hge : rows.length ≤ i := by rw [List.getElem?_eq_none_iff] at hr0; exact hr0
        have : R[i]? = none := by rw [List.getElem?_eq_none_iff]; show R.length ≤ i; have : R.length = rows.length := hlen; omega
        rw [this]; rfl
      | some r0 =>
        obtain ⟨r, hr, _, hr2⟩ := hrel i r0 hr0
        rw [show R[i]? = some r from hr]
        simp only [Option.map_some, hr2 (hdone _)]
    have gW : Gl W := hg.tr hs.tr fun b hb => h.ge b hb
    refine ⟨_, rfl, ?_⟩
    refine call (note_calls hm hnev _ rfl rfl) ?_
    rintro _ w3 ⟨evv', m3, t3, f3⟩
    have mw : MemW W p bl bm R evv span nev := ⟨hm, hi.im⟩
    refine ⟨R, evv', hmap, mw.note m3 t3, hs.trans ⟨t3.mono fun b hb _ => ?_, f3⟩⟩
    rcases List.mem_cons.1 hb with rfl | hb
    · exact in_p
    · exact in_ev (by simpa using hb)
  · -- a round
    have hcnt : cnt' < cnt := hcnt
    obtain ⟨i, r, rfl, hr, hp⟩ := busy_some hmk
    have hr : R[i]? = some r := hr
    have hi' : i < R.length := (List.getElem?_eq_some_iff.1 hr).1
    have hi0 : i < rows.length := by have : R.length = rows.length := hlen; omega
    have hok := hm.ok r (List.mem_of_getElem? hr)
    have hm1 : MemX W1 p bl bm R evv span nev := hm.tr t1 fun b hb => by simp at hb; subst hb; exact hitF
    obtain ⟨r0, hr0⟩ : ∃ r0, rows[i]? = some r0 := ⟨rows[i], List.getElem?_eq_getElem hi0⟩
    have hrr0 : r.1 = r0.1 := by
      obtain ⟨r', hr', h1, _⟩ := hrel i r0 hr0
      rw [show R[i]? = some r' from hr'] at hr
      obtain rfl := Option.some.inj hr
      exact h1 hk
    have hs1 : Step w W1 (foot p bl bm rows evv) (foot p bl bm R evv) := ⟨hs.tr.trans t1 (fun _ h => h) fun b hb hlt' => by simp at hb; omega, hs.sub⟩
    have gW1 : Gl W1 := hg.tr hs1.tr fun b hb => h.ge b hb
    refine ⟨_, _, hent, ?_⟩
    refine ⟨_, hm1.head.cell rfl, i, rfl, hi', _, hm1.mark hr, ?_⟩
    -- the rows behind the round
    have fin : ∀ (W2 : World) (r' : Ln × Value) (cnt2 : Nat), cnt2 ≤ cnt' → r'.1 = r.1.settle r.1.mark → MemX W2 p bl bm (R.set i r') evv span nev → IR W2 bm it (busyM (R.set i r')) (fun j => left j ∧ j ≠ (i : Nat)) cnt2 →
        Step W1 W2 (foot p bl bm R evv) (foot p bl bm (R.set i r') evv) → it < W2.heap.size → it ∉ foot p bl bm (R.set i r') evv →
        (([] : List Deferred) = []) ∧ ∃ s : FS, Sub [(0, .pointer (some ⟨p, 0, none⟩)), (7, .pointer (some ⟨it, 0, none⟩))] [(0, .pointer (some ⟨p, 0, none⟩)), (7, .pointer (some ⟨it, 0, none⟩))] ∧ (FI w p bl bm it rows evv span nev s W2 ∧ it < W2.heap.size ∧ it ∉ foot p bl bm s.rows evv) ∧ s.cnt < cnt := by
      intro W2 r' cnt2 hc2 hr' hm2 hi2 hs2 hit2 hit2f
      refine ⟨rfl, ⟨R.set i r', _, cnt2⟩, ⟨rfl, rfl, trivial⟩, ⟨⟨hm2, hi2, hs1.trans hs2, by simpa using hlen, fun j rj hj => ?_⟩, hit2, hit2f⟩, by show cnt2 < cnt; omega⟩
      by_cases hji : j = i
      · subst hji
        rw [hr0] at hj
        obtain rfl := Option.some.inj hj
        exact ⟨r', by simp [hi'], fun hl => absurd rfl hl.2, fun _ => by rw [hr', hrr0]⟩
      · obtain ⟨rr, h1, h2, h3⟩ := hrel j rj hj
        refine ⟨rr, by show (R.set i r')[j]? = _; rw [List.getElem?_set, if_neg (fun e => hji e.symm)]; exact h1, fun hl => h2 hl.1, fun hl => h3 fun hl' => hl ⟨hl', fun e => hji (by exact_mod_cast e)⟩⟩
    by_cases hmk0 : r.1.mark = 0
    · rw [hmk0]
      refine call (settle0_calls hm1 i hi') ?_
      rintro _ _ rfl
      have hset : R.set i r = R := by rw [← (List.getElem?_eq_some_iff.1 hr).2, List.set_getElem_self]
      obtain ⟨hh, s, _, hI, hc⟩ := fin W1 r cnt' (Nat.le_refl _) (by rw [hmk0]; rfl) (by rw [hset]; exact hm1) (by rw [hset]; exact hi1) (by rw [hset]; exact Step.refl _ _) (Nat.lt_of_lt_of_le hitW t1.size) (by rw [hset]; exact hitF)
      exact ⟨rfl, s, ⟨rfl, rfl, trivial⟩, hI, hc⟩
    · have hmark := hok.mark
      have hin : busyM R ((i : Nat) : Int) ≠ none := (busy_iff hr).2 hp
      refine call (settle_calls hm1 gW1 i r.1.mark hr hmark hmk0 (by rw [hrr0]; exact hsm r0 (List.mem_of_getElem? hr0)) (rest_ir (left := fun j => left j ∧ j ≠ (i : Nat)) n3 hitbl (by simp) hin) hi1) ?_
      rintro _ W2 ⟨v', hm2, ⟨cnt2, hc2, hi2⟩, t2, hf2⟩
      have hbusy : busyM (R.set i (r.1.settle r.1.mark, v')) = if decide (r.1.pend.length - r.1.mark = 0) then delM (busyM R) (i : Nat) else setM (busyM R) (i : Nat) (.bool true) := by
        rw [busyM_set hi']
        have : (r.1.settle r.1.mark).pend = r.1.pend.drop r.1.mark := by unfold Ln.settle; rw [if_neg hmk0]
        have h2 : (r.1.settle r.1.mark).pend = [] ↔ r.1.pend.length - r.1.mark = 0 := by
          rw [this, ← List.length_eq_zero_iff, List.length_drop]
        by_cases h3 : r.1.pend.length - r.1.mark = 0
        · rw [if_pos (h2.2 h3), if_pos (by simpa using h3)]
        · rw [if_neg (fun h => h3 (h2.1 h)), if_neg (by simpa using h3)]
      have hlt1 := hm1.foot_lt
      have hfs := foot_set hm1.nodup hlt1 (r' := (r.1.settle r.1.mark, v')) hr (fun b hb => .inr (hf2 b hb))
      have hit1 : it < W1.heap.size := Nat.lt_of_lt_of_le hitW t1.size
      obtain ⟨hh, s, _, hI, hc⟩ := fin W2 (r.1.settle r.1.mark, v') cnt2 hc2 rfl hm2 (by rw [hbusy]; exact hi2) ⟨t2.mono fun b hb _ => (show b = bl ∨ b = bm by simpa using hb).elim (fun e => e ▸ in_bl) (fun e => e ▸ in_bm), hfs.2⟩ (Nat.lt_of_lt_of_le hit1 t2.size)
        (fun hm => (hfs.2 it hm).elim (fun h => hitF h) (fun h => by omega))
      exact ⟨rfl, s, ⟨rfl, rfl, trivial⟩, hI, hc⟩

end

end Go.Proofs.YthepaakejpbppaaGreatDoor

/- Slices to read alone; small laws. -/
namespace Go.Proofs.YthepaakejpbppaaGreatDoor
open Go.E

theorem take_snoc {α : Type} {l : List α} {k : Nat} {x : α} (h : l[k]? = some x) : l.take (k + 1) = l.take k ++ [x] := by
  have hk := (List.getElem?_eq_some_iff.1 h).1
  rw [List.take_succ_eq_append_getElem hk, (List.getElem?_eq_some_iff.1 h).2]

theorem flatMap_cong {α β : Type} {f g : α → List β} : ∀ {l : List α}, (∀ a ∈ l, f a = g a) → l.flatMap f = l.flatMap g
  | [], _ => rfl
  | x :: r, h => by rw [List.flatMap_cons, List.flatMap_cons, h x (by simp), flatMap_cong fun a ha => h a (by simp [ha])]

def nilv : Value := .slice none 0 0

def icells (xs : List Nat) : List Value := xs.map fun n : Nat => .int .i64 (n : Int)

theorem icells_len (xs : List Nat) : (icells xs).length = xs.length := by simp [icells]

theorem icells_one (xs : List Nat) : (icells xs).all E.one = true := by simp [icells, E.one]

theorem icells_get {xs : List Nat} {i x : Nat} (h : xs[i]? = some x) : (icells xs)[i]? = some (.int .i64 (x : Nat)) := by simp [icells, h]

/-- A slice whose cells are xs, to read alone. -/
def Sli (w : World) (v : Value) (n : Nat) (xs : List Value) : Prop := ∃ a c, v = .slice a n c ∧ n ≤ c ∧ ((a = none ∧ n = 0) ∨ ∃ g o, a = some ⟨g, o, none⟩ ∧ Cells w g o xs)

theorem Row.sli {w : World} {e size n : Nat} {v : Value} {xs : List Value} (h : Row w e size v n xs) : Sli w v n xs := by
  rcases Row.elem h with ⟨rfl, rfl⟩ | ⟨g, cap, rfl, hn, _, hc⟩
  · exact ⟨none, 0, rfl, Nat.le_refl _, .inl ⟨rfl, rfl⟩⟩
  · exact ⟨_, cap, rfl, hn, .inr ⟨g, 0, rfl, hc⟩⟩

theorem Sli.ext {w w' : World} {v : Value} {n : Nat} {xs : List Value} (h : Sli w v n xs) (t : Tr [] w w') : Sli w' v n xs := by
  obtain ⟨a, c, hv, hn, h | ⟨g, o, ha, hc⟩⟩ := h
  · exact ⟨a, c, hv, hn, .inl h⟩
  · exact ⟨a, c, hv, hn, .inr ⟨g, o, ha, hc.ext t⟩⟩

theorem Sli.slice {w : World} {v : Value} {n : Nat} {xs : List Value} (h : Sli w v n xs) : ∃ a c, v = .slice a n c := let ⟨a, c, h, _⟩ := h; ⟨a, c, h⟩

section
variable {p bl bm : Nat} {rows : List (Ln × Value)} {evv : Value} {span nev : Nat}
def shr (r : Ln × Value) : Option (List Nat) := r.1.shows r.1.pend.length
end

theorem append_none {t e ty : Nat} {x y : TI} (ht : tget cx.tb t = some x) (hx : x.kd = .slice e) (he : tget cx.tb e = some y) {w : World} {v : Value} {n : Nat} {xs : List Value} (h : Row w e y.size v n xs) (c : Nat) {K : Value → World → Prop} (hK : K v w) :
    RunV cx.P (Builtin.append_ #[t, t] ty #[v, .slice none 0 c]) w K := by
  refine ⟨v, w, ?_, hK⟩
  have hu := run_under_slice cx_ok ht hx w
  have hsz := run_sizeOf cx_ok he w
  rcases Row.elem h with ⟨rfl, rfl⟩ | ⟨g, cap, rfl, hn, _, _⟩
  · simp [Builtin.append_, hu, hsz, Builtin.lenOf, Builtin.firstCells]
  · simp [Builtin.append_, hu, hsz, Builtin.lenOf, Builtin.firstCells, hn, storeCells]

/-- A slice to read alone, in a block of D. -/
def SliD (w : World) (v : Value) (n : Nat) (xs : List Value) (D : Nat → Prop) : Prop := ∃ a c, v = .slice a n c ∧ n ≤ c ∧ ((a = none ∧ n = 0) ∨ ∃ g o, a = some ⟨g, o, none⟩ ∧ D g ∧ Cells w g o xs)

theorem SliD.sli {w : World} {v : Value} {n : Nat} {xs : List Value} {D : Nat → Prop} (h : SliD w v n xs D) : Sli w v n xs := by
  obtain ⟨a, c, hv, hn, h | ⟨g, o, ha, _, hc⟩⟩ := h
  · exact ⟨a, c, hv, hn, .inl h⟩
  · exact ⟨a, c, hv, hn, .inr ⟨g, o, ha, hc⟩⟩

theorem SliD.tr {T : List Nat} {w w' : World} {v : Value} {n : Nat} {xs : List Value} {D : Nat → Prop} (h : SliD w v n xs D) (t : Tr T w w') (hn : ∀ b, b ∈ T → ¬ D b) : SliD w' v n xs D := by
  obtain ⟨a, c, hv, hl, h | ⟨g, o, ha, hd, hc⟩⟩ := h
  · exact ⟨a, c, hv, hl, .inl h⟩
  · exact ⟨a, c, hv, hl, .inr ⟨g, o, ha, hd, hc.tr t fun hm => hn g hm hd⟩⟩

theorem SliD.ext {w w' : World} {v : Value} {n : Nat} {xs : List Value} {D : Nat → Prop} (h : SliD w v n xs D) (t : Tr [] w w') : SliD w' v n xs D := h.tr t (by simp)

theorem SliD.mono {w : World} {v : Value} {n : Nat} {xs : List Value} {D D' : Nat → Prop} (h : SliD w v n xs D) (hD : ∀ b, D b → D' b) : SliD w v n xs D' := by
  obtain ⟨a, c, hv, hl, h | ⟨g, o, ha, hd, hc⟩⟩ := h
  · exact ⟨a, c, hv, hl, .inl h⟩
  · exact ⟨a, c, hv, hl, .inr ⟨g, o, ha, hD g hd, hc⟩⟩

theorem Row.slid {w : World} {e size n : Nat} {v : Value} {xs : List Value} (h : Row w e size v n xs) : SliD w v n xs (fun b => v.ownBlock = some b) := by
  rcases Row.elem h with ⟨rfl, rfl⟩ | ⟨g, cap, rfl, hn, _, hc⟩
  · exact ⟨none, 0, rfl, Nat.le_refl _, .inl ⟨rfl, rfl⟩⟩
  · exact ⟨_, cap, rfl, hn, .inr ⟨g, 0, rfl, rfl, hc⟩⟩

theorem SliD.slice {w : World} {v : Value} {n : Nat} {xs : List Value} {D : Nat → Prop} (h : SliD w v n xs D) : ∃ a c, v = .slice a n c := let ⟨a, c, h, _⟩ := h; ⟨a, c, h⟩

theorem SliD.one {w : World} {v : Value} {n : Nat} {xs : List Value} {D : Nat → Prop} (h : SliD w v n xs D) : E.one v = true := by obtain ⟨a, c, rfl⟩ := h.slice; rfl

/-- A slice to read alone that came in: without elements, its address is any. -/
def SliZ (w : World) (v : Value) (n : Nat) (xs : List Value) : Prop := ∃ a c, v = .slice a n c ∧ n ≤ c ∧ (n = 0 ∨ ∃ g o, a = some ⟨g, o, none⟩ ∧ Cells w g o xs)
theorem SliZ.slice {w : World} {v : Value} {n : Nat} {xs : List Value} (h : SliZ w v n xs) : ∃ a c, v = .slice a n c := let ⟨a, c, h, _⟩ := h; ⟨a, c, h⟩
theorem SliZ.ext {w w' : World} {v : Value} {n : Nat} {xs : List Value} (h : SliZ w v n xs) (t : Tr [] w w') : SliZ w' v n xs := by
  obtain ⟨a, c, hv, hn, h | ⟨g, o, ha, hc⟩⟩ := h
  · exact ⟨a, c, hv, hn, .inl h⟩
  · exact ⟨a, c, hv, hn, .inr ⟨g, o, ha, hc.ext t⟩⟩
theorem SliZ.head {w : World} {a : Option Addr} {n c : Nat} {xs : List Value} (h : SliZ w (.slice a n c) n xs) (h0 : 0 < n) : ∃ g o, a = some ⟨g, o, none⟩ ∧ n ≤ c ∧ Cells w g o xs := by
  obtain ⟨a', c', hv, hnc, h⟩ := h
  obtain ⟨rfl, _, rfl⟩ := Value.slice.inj hv
  rcases h with hz | ⟨g, o, rfl, hc⟩
  · omega
  · exact ⟨g, o, rfl, hnc, hc⟩
theorem Sli.z {w : World} {v : Value} {n : Nat} {xs : List Value} (h : Sli w v n xs) : SliZ w v n xs := by
  obtain ⟨a, c, hv, hn, h | h⟩ := h
  · exact ⟨a, c, hv, hn, .inl h.2⟩
  · exact ⟨a, c, hv, hn, .inr h⟩

/-- The same, with what is known of the block. -/
def SliZD (w : World) (v : Value) (n : Nat) (xs : List Value) (D : Nat → Prop) : Prop := ∃ a c, v = .slice a n c ∧ n ≤ c ∧ (n = 0 ∨ ∃ g o, a = some ⟨g, o, none⟩ ∧ D g ∧ Cells w g o xs)
theorem SliZD.slice {w : World} {v : Value} {n : Nat} {xs : List Value} {D : Nat → Prop} (h : SliZD w v n xs D) : ∃ a c, v = .slice a n c := let ⟨a, c, h, _⟩ := h; ⟨a, c, h⟩
theorem SliZD.z {w : World} {v : Value} {n : Nat} {xs : List Value} {D : Nat → Prop} (h : SliZD w v n xs D) : SliZ w v n xs := by
  obtain ⟨a, c, hv, hn, h | ⟨g, o, ha, _, hc⟩⟩ := h
  · exact ⟨a, c, hv, hn, .inl h⟩
  · exact ⟨a, c, hv, hn, .inr ⟨g, o, ha, hc⟩⟩
theorem SliZD.tr {T : List Nat} {w w' : World} {v : Value} {n : Nat} {xs : List Value} {D : Nat → Prop} (h : SliZD w v n xs D) (t : Tr T w w') (hn : ∀ b, b ∈ T → ¬ D b) : SliZD w' v n xs D := by
  obtain ⟨a, c, hv, hnc, h | ⟨g, o, ha, hD, hc⟩⟩ := h
  · exact ⟨a, c, hv, hnc, .inl h⟩
  · exact ⟨a, c, hv, hnc, .inr ⟨g, o, ha, hD, hc.tr t fun hm => hn g hm hD⟩⟩
theorem SliZD.ext {w w' : World} {v : Value} {n : Nat} {xs : List Value} {D : Nat → Prop} (h : SliZD w v n xs D) (t : Tr [] w w') : SliZD w' v n xs D := h.tr t (by simp)
theorem SliD.zd {w : World} {v : Value} {n : Nat} {xs : List Value} {D : Nat → Prop} (h : SliD w v n xs D) : SliZD w v n xs D := by
  obtain ⟨a, c, hv, hn, h | h⟩ := h
  · exact ⟨a, c, hv, hn, .inl h.2⟩
  · exact ⟨a, c, hv, hn, .inr h⟩
theorem SliZ.zd {w : World} {v : Value} {n : Nat} {xs : List Value} (h : SliZ w v n xs) (hl : xs.length = 0 → n = 0) : SliZD w v n xs fun c => c < w.heap.size := by
  obtain ⟨a, c, hv, hn, h | ⟨g, o, ha, hc⟩⟩ := h
  · exact ⟨a, c, hv, hn, .inl h⟩
  · cases xs with
    | nil => exact ⟨a, c, hv, hn, .inl (hl rfl)⟩
    | cons x r => exact ⟨a, c, hv, hn, .inr ⟨g, o, ha, Go.E.cell_lt (hc 0 x rfl), hc⟩⟩
theorem SliZD.head {w : World} {a : Option Addr} {n c : Nat} {xs : List Value} {D : Nat → Prop} (h : SliZD w (.slice a n c) n xs D) (h0 : 0 < n) : ∃ g o, a = some ⟨g, o, none⟩ ∧ n ≤ c ∧ D g ∧ Cells w g o xs := by
  obtain ⟨a', c', hv, hnc, h⟩ := h
  obtain ⟨rfl, _, rfl⟩ := Value.slice.inj hv
  rcases h with hz | ⟨g, o, rfl, hd, hc⟩
  · omega
  · exact ⟨g, o, rfl, hnc, hd, hc⟩


/-- append of a slice to read alone. -/
theorem append_gen {t e ty : Nat} {x y : TI} (ht : tget cx.tb t = some x) (hx : x.kd = .slice e) (he : tget cx.tb e = some y) (hsz : 0 < y.size)
    {w : World} {v : Value} {n : Nat} {xs : List Value} (h : Row w e y.size v n xs) {bv : Value} {m : Nat} {news : List Value} (hb : Sli w bv m news) (hl : news.length = m * y.size) (h1 : news.all one = true)
    (h63 : n + m ≤ 1099511627776) (hby : y.bytes ≤ 128) {K : Value → World → Prop}
    (hK : ∀ v' w', Row w' e y.size v' (n + m) (xs ++ news) → Tr v.ownBlock.toList w w' → (v'.ownBlock = v.ownBlock ∨ v'.ownBlock = some w.heap.size) → K v' w') :
    RunV cx.P (Builtin.append_ #[t, t] ty #[v, bv]) w K := by
  obtain ⟨a, c, rfl, _, ⟨rfl, rfl⟩ | ⟨g, o, rfl, hc⟩⟩ := hb
  · have : news = [] := List.eq_nil_of_length_eq_zero (by rw [hl]; simp)
    subst this
    exact append_none ht hx he h c (hK v w (by simpa using h) (Tr.refl _ _) (.inl rfl))
  · exact append_own cx_ok ht hx he hsz h g o m c news hl hc h1 h63 hby fun v' w' hr t hat _ => hK v' w' hr t hat

/-- A cell of a row of the call's own is written. -/
theorem Row.store1 {w : World} {e size n : Nat} {v u : Value} {xs : List Value} (h : Row w e size v n xs) {g o : Nat} (hg : v.ownBlock = some g) (ho : o < xs.length) (hu : E.one u = true) {K : World → Prop}
    (hK : ∀ w', Tr [g] w w' → Row w' e size v n (xs.set o u) → K w') : St1 w g o u K := by
  obtain ⟨h1, ⟨rfl, _⟩ | ⟨g', cap, cur, rfl, hb, h4, h5, h6, h7, h8⟩⟩ := h
  · simp [Value.ownBlock] at hg
  · simp only [Value.ownBlock, Option.some.injEq] at hg
    subst hg
    have hlen : xs.length ≤ cur.toList.length := by rw [← h8, List.length_take]; omega
    refine ⟨cur.toList, e, by unfold Blk; simpa using h4, by omega, hu, fun w' u' => hK w' u'.tr ⟨by simpa using h1, .inr ⟨g', cap, (cur.toList.set o u).toArray, rfl, hb, u'.get, h5, h6, by simpa using h7, ?_⟩⟩⟩
    simp only [List.take_set, h8]

theorem ptr_nil {t e : Nat} {x : TI} (_ht : tget cx.tb t = some x) (hx : cx.P.underlying t = some (.pointer e)) (p q : Operand) (a : Addr) (w : World) :
    (do eqGuard .eql t p q (.pointer (some a)) (.pointer none); binOp .eql t (.pointer (some a)) (.pointer none) : Sem Value).run cx.P w = .ok (.bool false) w := by
  have hu : (underlying t).run cx.P w = .ok (.pointer e) w := by simp [underlying, hx]
  have he : (Op.equal t (.pointer (some a)) (.pointer none)).run cx.P w = .ok false w := by
    show (Op.equalIn (9999 + 1) t (.pointer (some a)) (.pointer none)).run cx.P w = _
    unfold Op.equalIn
    simp only [Sem.run_bind, hu, Result.andThen_ok]
    rfl
  simp [eqGuard, binOp, he]

theorem under_mem : cx.P.underlying 29 = some (.pointer 120) := by kernel_rfl

theorem ptr_nil_ne {t e : Nat} {x : TI} (_ht : tget cx.tb t = some x) (hx : cx.P.underlying t = some (.pointer e)) (p q : Operand) (a : Addr) (w : World) :
    (do eqGuard .neq t p q (.pointer (some a)) (.pointer none); binOp .neq t (.pointer (some a)) (.pointer none) : Sem Value).run cx.P w = .ok (.bool true) w := by
  have hu : (underlying t).run cx.P w = .ok (.pointer e) w := by simp [underlying, hx]
  have he : (Op.equal t (.pointer (some a)) (.pointer none)).run cx.P w = .ok false w := by
    show (Op.equalIn (9999 + 1) t (.pointer (some a)) (.pointer none)).run cx.P w = _
    unfold Op.equalIn
    simp only [Sem.run_bind, hu, Result.andThen_ok]
    rfl
  simp [eqGuard, binOp, he]

theorem ptr_nil0 {t e : Nat} {x : TI} (_ht : tget cx.tb t = some x) (hx : cx.P.underlying t = some (.pointer e)) (p q : Operand) (w : World) :
    (do eqGuard .eql t p q (.pointer none) (.pointer none); binOp .eql t (.pointer none) (.pointer none) : Sem Value).run cx.P w = .ok (.bool true) w := by
  have hu : (underlying t).run cx.P w = .ok (.pointer e) w := by simp [underlying, hx]
  have he : (Op.equal t (.pointer none) (.pointer none)).run cx.P w = .ok true w := by
    show (Op.equalIn (9999 + 1) t (.pointer none) (.pointer none)).run cx.P w = _
    unfold Op.equalIn
    simp only [Sem.run_bind, hu, Result.andThen_ok]
    rfl
  simp [eqGuard, binOp, he]

def quiet (ws : List Nat) : Ln := ⟨ws, enc ws, [], 0⟩

theorem quiet_ok {ws : List Nat} (h : Line8 ws) : (quiet ws).Ok := ⟨h, enc_lt ws, by simp [quiet], by simp [quiet]⟩


end Go.Proofs.YthepaakejpbppaaGreatDoor

/- memory.New. -/
namespace Go.Proofs.YthepaakejpbppaaGreatDoor
open Go.E

theorem flatten_rep {α : Type} (n : Nat) (l : List α) {β : Type} (x : β) (f : β → List α) (h : f x = l) : (List.replicate n l).flatten = (List.replicate n x).flatMap f := by
  rw [List.flatMap_def, List.map_replicate, h]

def raw0 : Ln := ⟨zeros8, 0, [], 0⟩

theorem raw0_ok : raw0.Ok := ⟨zeros8_ok, by decide, by simp [raw0], by simp [raw0]⟩

def newRows (n k : Nat) : List (Ln × Value) := List.replicate k (quiet zeros8, nilv) ++ List.replicate (n - k) (raw0, nilv)

theorem newRows_get {n k : Nat} (h : k < n) : (newRows n k)[k]? = some (raw0, nilv) := by
  unfold newRows
  rw [List.getElem?_append_right (by simp)]
  simp only [List.length_replicate, Nat.sub_self]
  rw [List.getElem?_replicate, if_pos (by omega)]

theorem newRows_set {n k : Nat} (h : k < n) : (newRows n k).set k (quiet zeros8, nilv) = newRows n (k + 1) := by
  unfold newRows
  rw [List.set_append, if_neg (by simp)]
  have : n - k = (n - (k + 1)) + 1 := by omega
  rw [this, List.replicate_succ, List.length_replicate, Nat.sub_self, List.set_cons_zero, List.replicate_succ' (n := k), List.append_assoc]
  rfl

theorem newRows_len {n k : Nat} (h : k ≤ n) : (newRows n k).length = n := by simp [newRows]; omega

theorem newRows_ok {n k : Nat} : ∀ r ∈ newRows n k, r.1.Ok ∧ r.2 = nilv ∧ r.1.pend = [] := by
  intro r hr
  unfold newRows at hr
  rcases List.mem_append.1 hr with hr | hr
  · obtain rfl := List.eq_of_mem_replicate hr
    exact ⟨quiet_ok zeros8_ok, rfl, rfl⟩
  · obtain rfl := List.eq_of_mem_replicate hr
    exact ⟨raw0_ok, rfl, rfl⟩

theorem busy_none {rows : List (Ln × Value)} (h : ∀ r ∈ rows, r.1.pend = []) (k : Int) : busyM rows k = none := by
  cases hk : busyM rows k with
  | none => rfl
  | some v =>
    obtain ⟨i, r, _, hr, hp⟩ := busy_some hk
    exact absurd (h r (List.mem_of_getElem? hr)) hp

theorem foot_nil {p bl bm : Nat} {rows : List (Ln × Value)} (h : ∀ r ∈ rows, r.2 = nilv) : foot p bl bm rows nilv = [p, bl, bm] := by
  unfold foot
  have : (rows.flatMap fun r => r.2.ownBlock.toList) = [] := by
    rw [List.flatMap_eq_nil_iff]
    intro r hr
    rw [h r hr]; rfl
  rw [this]
  rfl

theorem lc_nil {l : Ln} {v : Value} (hv : v = nilv) : lcells (l, v) = wcells l.ws ++ [.int .i64 (l.code : Nat), .slice none 0 0, .int .i64 (l.mark : Nat)] := by subst hv; rfl

set_option maxHeartbeats 1000000 in
theorem New_calls (w : World) (hg : Gl w) (n : Nat) (h1 : 1 ≤ n) (hn : n ≤ 4096) :
    Calls cx.P 43 #[.int .i64 (n : Nat)] w (Ret fun v w' => Tr [] w w' ∧ ∃ p bl bm F, v = .pointer (some ⟨p, 0, none⟩) ∧ F = foot p bl bm (List.replicate n (quiet zeros8, nilv)) nilv ∧ MemW w' p bl bm (List.replicate n (quiet zeros8, nilv)) nilv 0 0 ∧ ∀ b ∈ F, w.heap.size ≤ b) := by
  refine calls_body cx_ok (args := [.int .i64 (n : Nat)]) Tryz.func43 rfl 32 rfl rfl [.tmp 2] rfl ?_
  refine ⟨fun h => absurd h (by omega), fun _ => ⟨fun h => absurd h (by omega), fun _ => ?_⟩⟩
  refine ⟨n, n, rfl, rfl, Nat.le_refl _, ⟨by show n * 104 ≤ _; omega, by omega, rfl⟩, fun bl w1 n1 => ?_⟩
  have e1 := n1.num; have z1 := n1.size
  have B1 : Blk w1 bl ((newRows n 0).flatMap lcells) 115 := by
    have hb := n1.blk
    have : newRows n 0 = List.replicate n (raw0, nilv) := by simp [newRows]
    rw [this, ← flatten_rep n _ (raw0, nilv) lcells rfl]
    exact hb
  refine ⟨_, rfl, ?_⟩
  refine call (Encode_calls zeros8 zeros8_ok w1 (hg.ext n1.tr)) ?_
  rintro _ w2 ⟨rfl, t2⟩
  have z2 := t2.size
  refine loop_rule cx_ok (fun k W => k ≤ n ∧ Tr [] w W ∧ Blk W bl ((newRows n k).flatMap lcells) 115) (fun k : Nat => [(3, .slice (some ⟨bl, 0, none⟩) n n), (4, .int .i64 (enc zeros8 : Nat)), (17, .int .i64 n), (18, .int .i64 k)]) (fun k => n - k) 0
    ⟨rfl, rfl, rfl, rfl, trivial⟩ ⟨by omega, n1.tr.ext t2, B1.ext t2⟩ ?_
  rintro k W ⟨hk, tW, BW⟩
  have hL : ∀ r ∈ newRows n k, (lcells r).length = 11 := fun r hr => lcells_len (newRows_ok r hr).1
  refine ⟨fun hlt => ?_, fun hge => ?_⟩
  · have hkn : k < n := by omega
    refine ⟨k, rfl, hkn, _, _, BW, by rw [fm_len hL, newRows_len hk]; show 0 + k * 11 + 0 + 8 < _; omega, rfl, fun W1 u1 => ?_⟩
    have B2 : Blk W1 bl (((newRows n k).flatMap lcells).set (0 + k * 11 + 0 + 8) (.int .i64 (enc zeros8 : Nat))) 115 := u1.blk
    rw [show 0 + k * 11 + 0 + 8 = k * 11 + 8 by omega, line_set (j := 8) (r' := (quiet zeros8, nilv)) hL (newRows_get hkn) (by omega) (lcells_tail (r' := (quiet zeros8, nilv)) (r := (raw0, nilv)) (j := 0) rfl rfl (.int .i64 (enc zeros8 : Nat)) rfl (by omega)), newRows_set hkn] at B2
    refine ⟨((k + 1 : Nat) : Int), by rw [w64 (by omega)]; omega, ?_⟩
    exact ⟨rfl, k + 1, ⟨rfl, rfl, rfl, rfl, trivial⟩, ⟨by omega, u1.ext tW (by omega), B2⟩, by omega⟩
  · obtain rfl : k = n := by omega
    intro bm W1 m1
    refine ⟨_, rfl, fun p W2 m2 => ?_⟩
    have em1 := m1.num; have em2 := m2.num; have zm1 := m1.size; have zm2 := m2.size; have zW := tW.size
    have hlt := BW.lt
    have hrows : newRows k k = List.replicate k (quiet zeros8, nilv) := by simp [newRows]
    rw [hrows] at BW
    have hok : ∀ r ∈ List.replicate k (quiet zeros8, nilv), r.1.Ok ∧ r.2 = nilv ∧ r.1.pend = [] := fun r hr => newRows_ok (n := k) (k := k) r (by rw [hrows]; exact hr)
    have hfoot : foot p bl bm (List.replicate k (quiet zeros8, nilv)) nilv = [p, bl, bm] := foot_nil fun r hr => (hok r hr).2.1
    have hgs := hg.size
    refine ⟨(tW.ext m1.tr).ext m2.tr, p, bl, bm, _, rfl, rfl, ⟨⟨?_, (BW.ext m1.tr).ext m2.tr, fun r hr => ?_, ⟨[], World.ownsRow_nil _ _ _ _⟩, fun r hr => (hok r hr).1, ?_, ?_, by rw [List.length_replicate]; exact hn, by omega⟩, ?_⟩, fun b hb => ?_⟩
    · rw [List.length_replicate]
      exact m2.blk
    · obtain ⟨_, h2, h3⟩ := hok r hr
      rw [h2, h3]
      exact World.ownsRow_nil _ _ _ _
    · rw [hfoot]
      simp
      omega
    · rw [hfoot]
      intro b hb
      simp at hb
      omega
    · exact ((IM.new m1).tr m2.tr (by simp)).congr fun k => (busy_none (fun r hr => (hok r hr).2.2) k).symm
    · rw [hfoot] at hb
      simp at hb
      omega

end Go.Proofs.YthepaakejpbppaaGreatDoor

/- Plain laws for the specification of the code. -/
namespace Go.Proofs.YthepaakejpbppaaGreatDoor

def jN (i : Nat) : Nat := posN i - (i + 1)
theorem jN_spec : ∀ i, i < 320 → 2 ≤ jN i ∧ jN i ≤ 10 ∧ posN i = i + 1 + jN i ∧ i + 1 + jN i < 2 ^ jN i ∧ ∀ j, j < jN i → 2 ≤ j → 2 ^ j ≤ i + 1 + j := by decide +kernel

theorem tb_div (x b : Nat) : x.testBit b = decide (x / 2 ^ b % 2 = 1) := Nat.testBit_eq_decide_div_mod_eq
theorem and_one (x : Nat) : x &&& 1 = x % 2 := Nat.and_one_is_mod x

/-- The word's bits up to b. -/
def bitsTo (x b : Nat) : List Nat := (List.range b).filter fun i => x.testBit i
theorem bitsTo_succ (x b : Nat) : bitsTo x (b + 1) = bitsTo x b ++ (if x.testBit b = true then [b] else []) := by
  unfold bitsTo
  rw [List.range_succ, List.filter_append]
  congr 1
  by_cases h : x.testBit b = true <;> simp [h]
theorem bitsTo_all {x b : Nat} (hb : b ≤ 40) (h : x / 2 ^ b = 0) : bitsTo x b = bitsL x := by
  have hx : x < 2 ^ b := by
    rcases Nat.div_eq_zero_iff.1 h with h | h
    · exact absurd h (Nat.ne_of_gt (Nat.two_pow_pos b))
    · exact h
  unfold bitsTo bitsL
  have e : List.range 40 = List.range b ++ List.range' b (40 - b) := by
    rw [List.range_eq_range', List.range_eq_range']
    have : 40 = b + (40 - b) := by omega
    conv => lhs; rw [this, ← List.range'_append_1]
    simp
  rw [e, List.filter_append]
  have : (List.range' b (40 - b)).filter (fun i => x.testBit i) = [] := by
    rw [List.filter_eq_nil_iff]
    intro i hi
    rw [List.mem_range'_1] at hi
    rw [Nat.testBit_lt_two_pow (Nat.lt_of_lt_of_le hx (Nat.pow_le_pow_right (by decide) hi.1))]
    decide
  rw [this, List.append_nil]
theorem bitsTo_le {x b : Nat} (_hb : b ≤ 40) : (bitsTo x b).length ≤ b := by
  have := List.length_filter_le (fun i => x.testBit i) (List.range b)
  simpa [bitsTo] using this
theorem bitsTo_lt {x b i : Nat} (h : i ∈ bitsTo x b) : i < b := List.mem_range.1 (List.mem_filter.1 h).1

/-- The syndrome's part of a word's first bits. -/
def synB (k x b : Nat) (acc : Nat × Nat) : Nat × Nat := (bitsTo x b).foldl (synStep k) acc
theorem synB_zero (k x : Nat) (acc : Nat × Nat) : synB k x 0 acc = acc := rfl
theorem synB_succ (k x b : Nat) (acc : Nat × Nat) : synB k x (b + 1) acc = if x.testBit b = true then synStep k (synB k x b acc) b else synB k x b acc := by
  unfold synB
  rw [bitsTo_succ, List.foldl_append]
  by_cases h : x.testBit b = true <;> simp [h]
theorem synB_all {k x b : Nat} {acc : Nat × Nat} (hb : b ≤ 40) (h : x / 2 ^ b = 0) : synB k x b acc = synW k x acc := by
  unfold synB synW
  rw [bitsTo_all hb h]
theorem synB_bd {k x b : Nat} {acc : Nat × Nat} (hk : k < 8) (hb : b ≤ 40) (ha : acc.1 < 512) : (synB k x b acc).1 < 512 ∧ (synB k x b acc).2 ≤ acc.2 + b := by
  have := synW_bd hk (bitsTo x b) acc (fun i hi => Nat.lt_of_lt_of_le (bitsTo_lt hi) hb) ha
  refine ⟨this.1, ?_⟩
  unfold synB
  rw [this.2]
  have := bitsTo_le (x := x) hb
  omega

/-! The code's bits -/

def cs (code b : Nat) : Nat := (code % 2 ^ b) &&& 511
def cn (code b : Nat) : Nat := (bitsTo code b).length
theorem cs_step : ∀ code, code < 1024 → ∀ b, b < 10 → ((code.testBit b = true ∧ b < 9) → cs code (b + 1) = cs code b ^^^ 2 ^ b) ∧ (¬ (code.testBit b = true ∧ b < 9) → cs code (b + 1) = cs code b) := by decide +kernel
theorem cs_zero (code : Nat) : cs code 0 = 0 := by unfold cs; rw [Nat.pow_zero, Nat.mod_one]; rfl
theorem cs_ten {code : Nat} (h : code < 1024) : cs code 10 = code &&& 511 := by unfold cs; rw [Nat.mod_eq_of_lt h]
theorem cn_succ (code b : Nat) : cn code (b + 1) = if code.testBit b = true then cn code b + 1 else cn code b := by
  unfold cn
  rw [bitsTo_succ]
  by_cases h : code.testBit b = true <;> simp [h]
theorem cn_ten (code : Nat) : cn code 10 = onesN code := rfl
theorem cn_le {code b : Nat} (hb : b ≤ 10) : cn code b ≤ 10 := by
  have := bitsTo_le (x := code) (b := b) (by omega)
  unfold cn; omega
theorem cs_lt (code b : Nat) : cs code b < 512 := Nat.lt_of_le_of_lt Nat.and_le_right (by decide)

theorem pow_bit : ∀ s, s < 512 → s ≠ 0 → (s &&& (s - 1) = 0 → ctzN s < 9 ∧ s = 2 ^ ctzN s) ∧ (s &&& (s - 1) ≠ 0 → ∀ b, b < 9 → s ≠ 2 ^ b) := by decide +kernel

theorem pow_inj {a b : Nat} (h : 2 ^ a = 2 ^ b) : a = b := Nat.pow_right_inj (by decide) |>.1 h

end Go.Proofs.YthepaakejpbppaaGreatDoor

/- The specification of the code: place, one, Valid, Syndrome. -/
namespace Go.Proofs.YthepaakejpbppaaGreatDoor
open Go.E

theorem place_calls (i : Nat) (hi : i < 320) (w : World) : Calls cx.P 156 #[.int .i64 (i : Nat)] w (Ret fun v w' => v = .int .i64 (posN i : Nat) ∧ w = w') := by
  obtain ⟨h2, h10, hp, hlt, hge⟩ := jN_spec i hi
  refine calls_body cx_ok (args := [.int .i64 (i : Nat)]) Tryz.func156 rfl 17 rfl rfl [.tmp 2] rfl ?_
  refine loop_rule cx_ok (fun j W => (2 ≤ j ∧ j ≤ jN i) ∧ w = W) (fun j : Nat => [(0, .int .i64 (i : Nat)), (3, .int .i64 j)]) (fun j => jN i - j) 2 ⟨rfl, rfl, trivial⟩ ⟨by omega, rfl⟩ ?_
  rintro j _ ⟨hj, rfl⟩
  have hpow : 2 ^ j ≤ 2 ^ 10 := Nat.pow_le_pow_right (by decide) (by omega)
  refine ⟨((i + 1 : Nat) : Int), by rw [w64 (by omega)]; omega, ((i + 1 + j : Nat) : Int), by rw [w64 (by omega)]; omega, _, by omega, shl_nat 1 j (by omega) (by omega), fun h => ?_, fun h => ?_⟩
  · have hj' : j < jN i := by
      refine Nat.lt_of_le_of_ne hj.2 fun e => ?_
      subst e
      omega
    refine ⟨((j + 1 : Nat) : Int), by rw [w64 (by omega)]; omega, ?_⟩
    exact ⟨rfl, j + 1, ⟨rfl, rfl, trivial⟩, ⟨by omega, rfl⟩, by omega⟩
  · have hj' : j = jN i := by
      refine Nat.le_antisymm hj.2 (Nat.le_of_not_lt fun hl => ?_)
      have := hge j hl hj.1
      omega
    refine ⟨((i + 1 : Nat) : Int), by rw [w64 (by omega)]; omega, ((posN i : Nat) : Int), by rw [w64 (by omega)]; omega, ?_⟩
    exact ⟨rfl, rfl⟩

/-- The bit of a number. -/
theorem one_bit (x b : Nat) (hx : x < 2 ^ 40) : bits .and .i64 ((x / 2 ^ b : Nat) : Int) 1 = ((x / 2 ^ b % 2 : Nat) : Int) := by
  have : x / 2 ^ b < 2 ^ 40 := Nat.lt_of_le_of_lt (Nat.div_le_self _ _) hx
  have h := bits_and (x / 2 ^ b) 1 (by omega) (by omega)
  rw [and_one] at h
  exact h

theorem one_calls (ws : List Nat) (h8 : Line8 ws) (code : Nat) (hc : code < 1024) (k b : Nat) (hk : k ≤ 8) (hb : b ≤ 40) (w : World) :
    Calls cx.P 155 #[.agg (wcells ws).toArray, .int .i64 code, .int .i64 k, .int .i64 b] w (Ret fun v w' => v = .bool (if k = 8 then code.testBit b else (ws.getD k 0).testBit b) ∧ Tr [] w w') := by
  refine calls_body cx_ok (args := [.agg (wcells ws).toArray, .int .i64 code, .int .i64 k, .int .i64 b]) Tryz.func155 rfl 23 rfl rfl [.tmp 8] rfl ?_
  intro b4 w1 n1
  have B4 : Blk w1 b4 (wcells ws) 69 := n1.blk
  refine ⟨fun h => ?_, fun h => ?_⟩
  · have hk8 : k = 8 := by omega
    have h40 : code < 2 ^ 40 := by omega
    refine ⟨_, by omega, shr_nat .i64 code b (by show b ≤ 64; omega), _, one_bit code b h40, fun h1 => ?_, fun h1 => ?_⟩
    · refine ⟨?_, n1.tr⟩
      rw [if_pos hk8, tb_div, decide_eq_true (by omega)]
      rfl
    · refine ⟨?_, n1.tr⟩
      rw [if_pos hk8, tb_div, decide_eq_false (by omega)]
      rfl
  · have hk8 : k < 8 := by omega
    obtain ⟨x, hx, hx40, hgd, hxc⟩ := h8.at hk8
    refine ⟨k, rfl, hk8, _, by rw [show 0 + k * 1 = k by omega]; exact B4.cell hxc, ?_⟩
    refine ⟨_, by omega, shr_nat .i64 x b (by show b ≤ 64; omega), _, one_bit x b hx40, fun h1 => ?_, fun h1 => ?_⟩
    · refine ⟨?_, n1.tr⟩
      rw [if_neg (by omega), hgd, tb_div, decide_eq_true (by omega)]
      rfl
    · refine ⟨?_, n1.tr⟩
      rw [if_neg (by omega), hgd, tb_div, decide_eq_false (by omega)]
      rfl

theorem Valid_calls (ws : List Nat) (h8 : Line8 ws) (code : Nat) (hc : code < 1024) (w : World) :
    Calls cx.P 133 #[.agg (wcells ws).toArray, .int .i64 code] w (Ret fun v w' => v = .bool true ∧ Tr [] w w') := by
  refine calls_body cx_ok (args := [.agg (wcells ws).toArray, .int .i64 code]) Tryz.func133 rfl 26 rfl rfl [.tmp 4] rfl ?_
  intro b w1 n1
  have B : Blk w1 b (wcells ws) 69 := n1.blk
  refine loop_rule cx_ok (fun k w' => k ≤ 8 ∧ w1 = w') (fun k : Nat => [(1, .int .i64 code), (2, .pointer (some ⟨b, 0, none⟩)), (5, .int .i64 k)]) (fun k => 8 - k) 0 ⟨rfl, rfl, rfl, trivial⟩ ⟨by omega, rfl⟩ ?_
  rintro k _ ⟨hk, rfl⟩
  refine ⟨fun h => ?_, fun h => ?_⟩
  · have hk8 : k < 8 := by omega
    obtain ⟨x, hx, hx40, _, hxc⟩ := h8.at hk8
    have hcell : w1.cell? ⟨b, 0 + k * 1, none⟩ = some (.int .i64 (x : Nat)) := by rw [show 0 + k * 1 = k by omega]; exact B.cell hxc
    refine ⟨k, rfl, hk8, _, hcell, fun h => absurd h (by omega), fun _ => ?_⟩
    refine ⟨k, rfl, hk8, _, hcell, fun h => absurd h (by omega), fun _ => ?_⟩
    refine ⟨((k + 1 : Nat) : Int), by rw [w64 (by omega)]; omega, ?_⟩
    exact ⟨rfl, k + 1, ⟨rfl, rfl, rfl, trivial⟩, ⟨by omega, rfl⟩, by omega⟩
  · refine ⟨fun _ => ⟨fun _ => ?_, fun h => absurd h (by omega)⟩, fun h => absurd h (by omega)⟩
    exact ⟨rfl, n1.tr⟩

/-- The syndrome and the number of ones, of the words and the code's first bits. -/
def synC (ws : List Nat) (code b : Nat) : Nat × Nat := ((syn ws).1 ^^^ cs code b, (syn ws).2 + cn code b)

theorem Syndrome_calls (ws : List Nat) (h8 : Line8 ws) (code : Nat) (hc : code < 1024) (w : World) :
    Calls cx.P 134 #[.agg (wcells ws).toArray, .int .i64 code] w (Ret fun v w' => v = .tuple #[.int .i64 ((syn ws).1 ^^^ (code &&& 511) : Nat), .int .i64 (((syn ws).2 + onesN code) % 2 : Nat)] ∧ Tr [] w w') := by
  refine calls_body cx_ok (args := [.agg (wcells ws).toArray, .int .i64 code]) Tryz.func134 rfl 63 rfl rfl [.tmp 4, .tmp 5] rfl ?_
  intro b2 w1 n1
  have B : Blk w1 b2 (wcells ws) 69 := n1.blk
  have hlen := wcells_len h8
  refine loop_rule cx_ok (fun k W => k ≤ 8 ∧ Tr [] w1 W) (fun k : Nat => [(1, .int .i64 code), (2, .pointer (some ⟨b2, 0, none⟩)), (6, .int .i64 ((synTo ws k).1 : Nat)), (7, .int .i64 ((synTo ws k).2 : Nat)), (8, .int .i64 k)]) (fun k => 8 - k) 0
    ⟨rfl, rfl, rfl, rfl, rfl, trivial⟩ ⟨by omega, Tr.refl _ _⟩ ?_
  rintro k W ⟨hk, tW⟩
  have hbd := synTo_bd ws k hk
  refine ⟨fun h => ?_, fun h => ?_⟩
  · have hk8 : k < 8 := by omega
    obtain ⟨x, hx, hx40, hgd, hxc⟩ := h8.at hk8
    refine loop_rule cx_ok (fun b W2 => b ≤ 40 ∧ Tr [] w1 W2) (fun b : Nat => [(1, .int .i64 code), (2, .pointer (some ⟨b2, 0, none⟩)), (6, .int .i64 ((synB k x b (synTo ws k)).1 : Nat)), (7, .int .i64 ((synB k x b (synTo ws k)).2 : Nat)), (8, .int .i64 k), (9, .int .i64 b)]) (fun b => 40 - b) 0
      ⟨rfl, rfl, rfl, rfl, rfl, rfl, trivial⟩ ⟨by omega, tW⟩ ?_
    rintro b W2 ⟨hb, t2⟩
    have hsb := synB_bd (x := x) hk8 hb hbd.1
    have hcell : W2.cell? ⟨b2, 0 + k * 1, none⟩ = some (.int .i64 (x : Nat)) := by rw [show 0 + k * 1 = k by omega]; exact (B.ext t2).cell hxc
    refine ⟨k, rfl, hk8, _, hcell, _, by omega, shr_nat .i64 x b (by show b ≤ 64; omega), fun hgt => ?_, fun hgt => ?_⟩
    · have hb40 : b < 40 := by
        refine Nat.lt_of_le_of_ne hb fun e => ?_
        subst e
        rw [Nat.div_eq_of_lt hx40] at hgt
        omega
      refine ⟨_, (B.ext t2).all, hlen, ?_⟩
      refine call (one_calls ws h8 code hc k b (by omega) (by omega) W2) ?_
      rintro _ W3 ⟨rfl, t3⟩
      rw [if_neg (by omega), hgd]
      have t3' := t2.ext t3
      have hst := synB_succ k x b (synTo ws k)
      cases htb : x.testBit b with
      | true =>
        rw [htb, if_pos rfl] at hst
        have hpl := posN_lt (40 * k + b) (by omega)
        refine ⟨((40 * k : Nat) : Int), by rw [w64 (by omega)]; omega, ((40 * k + b : Nat) : Int), by rw [w64 (by omega)]; omega, ?_⟩
        refine call (place_calls (40 * k + b) (by omega) W3) ?_
        rintro _ _ ⟨rfl, rfl⟩
        refine ⟨_, bits_xor _ _ (by omega) (by omega), ((((synB k x b (synTo ws k)).2 + 1 : Nat)) : Int), by rw [w64 (by omega)]; omega, ((b + 1 : Nat) : Int), by rw [w64 (by omega)]; omega, ?_⟩
        refine ⟨rfl, b + 1, ⟨rfl, rfl, by rw [hst]; rfl, by rw [hst]; rfl, rfl, rfl, trivial⟩, ⟨by omega, t3'⟩, by omega⟩
      | false =>
        rw [htb, if_neg (by decide)] at hst
        refine ⟨((b + 1 : Nat) : Int), by rw [w64 (by omega)]; omega, ?_⟩
        refine ⟨rfl, b + 1, ⟨rfl, rfl, by rw [hst]; rfl, by rw [hst]; rfl, rfl, rfl, trivial⟩, ⟨by omega, t3'⟩, by omega⟩
    · have h0 : x / 2 ^ b = 0 := Nat.eq_zero_of_not_pos fun hp => hgt (Int.natCast_pos.2 hp)
      have hall := synB_all (k := k) (acc := synTo ws k) hb h0
      have hst : synTo ws (k + 1) = synB k x b (synTo ws k) := by rw [hall, synTo, hgd]
      refine ⟨((k + 1 : Nat) : Int), by rw [w64 (by omega)]; omega, ?_⟩
      exact ⟨rfl, k + 1, ⟨rfl, rfl, by rw [hst]; rfl, by rw [hst]; rfl, rfl, trivial⟩, ⟨by omega, t2⟩, by omega⟩
  · have hk8 : k = 8 := by omega
    subst hk8
    have hs1 : (syn ws).1 < 512 := hbd.1
    have hs2 : (syn ws).2 ≤ 320 := hbd.2
    refine loop_rule cx_ok (fun b W2 => b ≤ 10 ∧ Tr [] w1 W2) (fun b : Nat => [(1, .int .i64 code), (2, .pointer (some ⟨b2, 0, none⟩)), (6, .int .i64 ((synC ws code b).1 : Nat)), (7, .int .i64 ((synC ws code b).2 : Nat)), (11, .int .i64 b)]) (fun b => 10 - b) 0
      ⟨rfl, rfl, by simp only [synC, cs_zero, Nat.xor_zero]; rfl, rfl, rfl, trivial⟩ ⟨by omega, tW⟩ ?_
    rintro b W2 ⟨hb, t2⟩
    have hx1 : (synC ws code b).1 < 512 := xor_lt512 hs1 (cs_lt code b)
    have hx2 : (synC ws code b).2 ≤ 330 := by
      have := cn_le (code := code) hb
      show (syn ws).2 + cn code b ≤ 330
      omega
    refine ⟨fun hlt => ?_, fun hge => ?_⟩
    · have hb10 : b < 10 := by omega
      have hcs := cs_step code hc b hb10
      have hcn := cn_succ code b
      have h2b : 2 ^ b < 2 ^ 10 := Nat.pow_lt_pow_right (by decide) hb10
      refine ⟨_, (B.ext t2).all, hlen, ?_⟩
      refine call (one_calls ws h8 code hc 8 b (by omega) (by omega) W2) ?_
      rintro _ W3 ⟨rfl, t3⟩
      rw [if_pos rfl]
      have t3' := t2.ext t3
      have hw : IntKind.i64.wrap ((b : Int) + 1) = ((b + 1 : Nat) : Int) := by rw [w64 (by omega)]; omega
      cases htb : code.testBit b with
      | true =>
        rw [htb, if_pos rfl] at hcn
        have h2n : (synC ws code (b + 1)).2 = (synC ws code b).2 + 1 := by show _ + cn code (b + 1) = _ + cn code b + 1; rw [hcn]; omega
        refine ⟨fun h9 => ?_, fun h9 => ?_⟩
        · have hcs1 := hcs.1 ⟨htb, by omega⟩
          have h1n : (synC ws code (b + 1)).1 = (synC ws code b).1 ^^^ 2 ^ b := by show _ ^^^ cs code (b + 1) = _ ^^^ cs code b ^^^ 2 ^ b; rw [hcs1, Nat.xor_assoc]
          refine ⟨_, by omega, shl_nat 1 b (by omega) (by omega), _, bits_xor _ _ (by omega) (by omega), (((synC ws code b).2 + 1 : Nat) : Int), by rw [w64 (by omega)]; omega, _, hw, ?_⟩
          exact ⟨rfl, b + 1, ⟨rfl, rfl, by rw [h1n, Nat.one_mul]; rfl, by rw [h2n]; rfl, rfl, trivial⟩, ⟨by omega, t3'⟩, by omega⟩
        · have hcs1 := hcs.2 (by omega)
          have h1n : (synC ws code (b + 1)).1 = (synC ws code b).1 := by show _ ^^^ cs code (b + 1) = _ ^^^ cs code b; rw [hcs1]
          refine ⟨(((synC ws code b).2 + 1 : Nat) : Int), by rw [w64 (by omega)]; omega, _, hw, ?_⟩
          exact ⟨rfl, b + 1, ⟨rfl, rfl, by rw [h1n]; rfl, by rw [h2n]; rfl, rfl, trivial⟩, ⟨by omega, t3'⟩, by omega⟩
      | false =>
        rw [htb, if_neg (by decide)] at hcn
        have hcs1 := hcs.2 (by rw [htb]; simp)
        have h1n : (synC ws code (b + 1)).1 = (synC ws code b).1 := by show _ ^^^ cs code (b + 1) = _ ^^^ cs code b; rw [hcs1]
        have h2n : (synC ws code (b + 1)).2 = (synC ws code b).2 := by show _ + cn code (b + 1) = _ + cn code b; rw [hcn]
        refine ⟨_, hw, ?_⟩
        exact ⟨rfl, b + 1, ⟨rfl, rfl, by rw [h1n]; rfl, by rw [h2n]; rfl, rfl, trivial⟩, ⟨by omega, t3'⟩, by omega⟩
    · have hb10 : b = 10 := by omega
      subst hb10
      have h1 : (synC ws code 10).1 = (syn ws).1 ^^^ (code &&& 511) := by show _ ^^^ cs code 10 = _; rw [cs_ten hc]
      have h2 : (synC ws code 10).2 = (syn ws).2 + onesN code := rfl
      rw [h1, h2]
      refine ⟨((((syn ws).2 + onesN code) % 2 : Nat) : Int), by decide, by rw [IntWalk.rem_in _ _ (by omega)]; omega, ?_⟩
      exact ⟨rfl, n1.tr.ext t2⟩

end Go.Proofs.YthepaakejpbppaaGreatDoor

/- The specification of the code: Checked, Check, Exists, Flip, Fix. -/
namespace Go.Proofs.YthepaakejpbppaaGreatDoor
open Go.E

def stCells (s : St) : List Value := [.int .i64 (s.state : Nat), .int .i64 (s.word : Nat), .int .i64 (s.bit : Nat)]

set_option maxHeartbeats 1000000 in
theorem Checked_calls (ws : List Nat) (h8 : Line8 ws) (code : Nat) (hc : code < 1024) (w : World) :
    Calls cx.P 151 #[.agg (wcells ws).toArray, .int .i64 code] w (Ret fun v w' => v = .agg (stCells (chk ws code)).toArray ∧ Tr [] w w') := by
  refine calls_body cx_ok (args := [.agg (wcells ws).toArray, .int .i64 code]) Tryz.func151 rfl 59 rfl rfl [.cell 4 189] rfl ?_
  intro b2 w1 n1 b4 w2 n2
  have e1 := n1.num; have e2 := n2.num; have z1 := n1.size; have z2 := n2.size
  have hlen := wcells_len h8
  have B2 : Blk w2 b2 (wcells ws) 69 := n1.blk.ext n2.tr
  have B4 : Blk w2 b4 [.int .i64 0, .int .i64 0, .int .i64 0] 189 := n2.blk
  have t02 := n1.tr.ext n2.tr
  refine ⟨_, B2.all, hlen, ?_⟩
  refine call (Valid_calls ws h8 code hc w2) ?_
  rintro _ w3 ⟨rfl, t3⟩
  refine ⟨_, (B2.ext t3).all, hlen, ?_⟩
  refine call (Syndrome_calls ws h8 code hc w3) ?_
  rintro _ w4 ⟨rfl, t4⟩
  have t24 := t3.ext t4
  have hs1 : (syn ws).1 < 512 := (synTo_bd ws 8 (by omega)).1
  have hand : code &&& 511 < 512 := Nat.lt_of_le_of_lt Nat.and_le_right (by decide)
  obtain ⟨s, hs⟩ : ∃ s, s = (syn ws).1 ^^^ (code &&& 511) := ⟨_, rfl⟩
  have hslt : s < 512 := by rw [hs]; exact xor_lt512 hs1 hand
  rw [← hs]
  obtain ⟨q, hq⟩ : ∃ q, q = ((syn ws).2 + onesN code) % 2 := ⟨_, rfl⟩
  have hq2 : q < 2 := by rw [hq]; exact Nat.mod_lt _ (by decide)
  rw [← hq]
  have B4' := B4.ext t24
  have fin : ∀ (W : World) (st : St), Tr [] w4 W → chk ws code = st → ∀ W', Upd W b4 (.cells (splice [.int .i64 0, .int .i64 0, .int .i64 0] 0 3 (stCells st)).toArray 189) W' →
      (Value.agg (stCells st).toArray = .agg (stCells (chk ws code)).toArray ∧ Tr [] w W') := by
    intro W st tW hst W' u
    have zW := tW.size; have z4 := t24.size
    exact ⟨by rw [hst], u.ext ((t02.ext t24).ext tW) (by omega)⟩
  have hchk : chk ws code = if q = 1 then if s = 0 then ⟨1, 8, 9⟩ else if s &&& (s - 1) = 0 then ⟨1, 8, ctzN s⟩ else match (List.range 320).find? (fun i => posN i == s) with
      | some i => ⟨1, i / 40, i % 40⟩
      | none => ⟨2, 0, 0⟩
    else if s = 0 then ⟨0, 0, 0⟩ else ⟨2, 0, 0⟩ := by rw [hs, hq]; rfl
  refine ⟨fun h0 => ?_, fun h0 => ?_⟩
  · have hq0 : ¬ q = 1 := by omega
    rw [if_neg hq0] at hchk
    refine ⟨fun hs0 => ?_, fun hs0 => ?_⟩
    · refine ⟨_, rfl, _, _, B4', rfl, by show 0 + 3 ≤ 3; decide, rfl, fun W' u => ⟨_, u.blk.all, rfl, fin w4 ⟨0, 0, 0⟩ (Tr.refl _ _) (by rw [hchk, if_pos (by omega)]) W' u⟩⟩
    · refine ⟨fun _ => ?_, fun h => absurd h0 h⟩
      refine ⟨_, rfl, _, _, B4', rfl, by show 0 + 3 ≤ 3; decide, rfl, fun W' u => ⟨_, u.blk.all, rfl, fin w4 ⟨2, 0, 0⟩ (Tr.refl _ _) (by rw [hchk, if_neg (by omega)]) W' u⟩⟩
  · have hq1 : q = 1 := by omega
    rw [if_pos hq1] at hchk
    refine ⟨fun h => absurd h h0, fun _ => ⟨fun hs0 => ?_, fun hs0 => ?_⟩⟩
    · refine ⟨_, rfl, _, _, B4', rfl, by show 0 + 3 ≤ 3; decide, rfl, fun W' u => ⟨_, u.blk.all, rfl, fin w4 ⟨1, 8, 9⟩ (Tr.refl _ _) (by rw [hchk, if_pos (by omega)]) W' u⟩⟩
    have hsn : s ≠ 0 := by omega
    rw [if_neg hsn] at hchk
    obtain ⟨hpow, hnpow⟩ := pow_bit s hslt hsn
    refine loop_rule cx_ok (fun b W => (b ≤ 9 ∧ ∀ j, j < b → s ≠ 2 ^ j) ∧ w4 = W) (fun b : Nat => [(4, .pointer (some ⟨b4, 0, none⟩)), (6, .int .i64 (s : Nat)), (8, .int .i64 b)]) (fun b => 9 - b) 0 ⟨rfl, rfl, rfl, trivial⟩ ⟨⟨by omega, fun j hj => by omega⟩, rfl⟩ ?_
    rintro b _ ⟨⟨hb, hno⟩, rfl⟩
    refine ⟨fun hlt => ?_, fun hge => ?_⟩
    · have hb9 : b < 9 := by omega
      have h2b : 2 ^ b < 2 ^ 9 := Nat.pow_lt_pow_right (by decide) hb9
      refine ⟨_, by omega, shl_nat 1 b (by omega) (by omega), fun heq => ?_, fun hne => ?_⟩
      · have hsb : s = 2 ^ b := by omega
        have hz : s &&& (s - 1) = 0 := Classical.byContradiction fun hne => hnpow hne b hb9 hsb
        have hct : ctzN s = b := pow_inj (by rw [← (hpow hz).2]; exact hsb)
        refine ⟨_, rfl, _, _, B4', rfl, by show 0 + 3 ≤ 3; decide, rfl, fun W' u => ⟨_, u.blk.all, rfl, fin w4 ⟨1, 8, b⟩ (Tr.refl _ _) (by rw [hchk, if_pos hz, hct]) W' u⟩⟩
      · refine ⟨((b + 1 : Nat) : Int), by rw [w64 (by omega)]; omega, ?_⟩
        refine ⟨rfl, b + 1, ⟨rfl, rfl, rfl, trivial⟩, ⟨⟨by omega, fun j hj => ?_⟩, rfl⟩, by omega⟩
        by_cases hjb : j = b
        · subst hjb; omega
        · exact hno j (by omega)
    have hz : ¬ (s &&& (s - 1) = 0) := fun hz => hno _ (by have := (hpow hz).1; omega) (hpow hz).2
    rw [if_neg hz] at hchk
    refine loop_rule cx_ok (fun i W => (i ≤ 320 ∧ ∀ j, j < i → posN j ≠ s) ∧ w4 = W) (fun i : Nat => [(4, .pointer (some ⟨b4, 0, none⟩)), (6, .int .i64 (s : Nat)), (9, .int .i64 i)]) (fun i => 320 - i) 0 ⟨rfl, rfl, rfl, trivial⟩ ⟨⟨by omega, fun j hj => by omega⟩, rfl⟩ ?_
    rintro i _ ⟨⟨hi, hno'⟩, rfl⟩
    refine ⟨fun hlt => ?_, fun hge => ?_⟩
    · have hi3 : i < 320 := by omega
      refine call (place_calls i hi3 w4) ?_
      rintro _ _ ⟨rfl, rfl⟩
      refine ⟨fun heq => ?_, fun hne => ?_⟩
      · have hf := find_some hi3 (by omega) hno'
        rw [hf] at hchk
        refine ⟨((i / 40 : Nat) : Int), by decide, by rw [IntWalk.i64_quo _ _ (by omega)]; omega, ((i % 40 : Nat) : Int), by decide, by rw [IntWalk.rem_in _ _ (by omega)]; omega, ?_⟩
        refine ⟨_, rfl, _, _, B4', rfl, by show 0 + 3 ≤ 3; decide, rfl, fun W' u => ⟨_, u.blk.all, rfl, fin w4 ⟨1, i / 40, i % 40⟩ (Tr.refl _ _) hchk W' u⟩⟩
      · refine ⟨((i + 1 : Nat) : Int), by rw [w64 (by omega)]; omega, ?_⟩
        refine ⟨rfl, i + 1, ⟨rfl, rfl, rfl, trivial⟩, ⟨⟨by omega, fun j hj => ?_⟩, rfl⟩, by omega⟩
        by_cases hji : j = i
        · subst hji; omega
        · exact hno' j (by omega)
    · have hi3 : i = 320 := by omega
      have hf := find_none (s := s) fun j hj => hno' j (by omega)
      rw [hf] at hchk
      refine ⟨_, rfl, _, _, B4', rfl, by show 0 + 3 ≤ 3; decide, rfl, fun W' u => ⟨_, u.blk.all, rfl, fin w4 ⟨2, 0, 0⟩ (Tr.refl _ _) hchk W' u⟩⟩

theorem Check03_calls (ws : List Nat) (h8 : Line8 ws) (code : Nat) (hc : code < 1024) (w : World) :
    Calls cx.P 129 #[.agg (wcells ws).toArray, .int .i64 code] w (Ret fun v w' => v = stVal (chk ws code) ∧ Tr [] w w') := by
  refine calls_body cx_ok (args := [.agg (wcells ws).toArray, .int .i64 code]) Tryz.func129 rfl 17 rfl rfl [.tmp 4, .tmp 5, .tmp 6] rfl ?_
  intro b2 w1 n1
  have e1 := n1.num; have z1 := n1.size
  refine ⟨_, n1.blk.all, wcells_len h8, ?_⟩
  refine call (Checked_calls ws h8 code hc w1) ?_
  rintro _ w2 ⟨rfl, t2⟩
  have z2 := t2.size
  intro b7 w3 n3
  have e3 := n3.num
  refine ⟨_, _, n3.blk, rfl, by show 0 + 3 ≤ 3; decide, rfl, fun w4 u4 => ?_⟩
  have B7 : Blk w4 b7 (stCells (chk ws code)) 189 := Upd.whole u4 rfl rfl
  refine draw_rule cx_ok [] (Plan.takes [0, 1, 2, 3, 4, 5, 6, 7, 8] .done) (by kernel_rfl) ?_
  intro w5 d
  refine ⟨_, fun w' t => t.cell (B7.cell rfl) (by simp), _, fun w' t => t.cell (B7.cell rfl) (by simp), _, fun w' t => t.cell (B7.cell rfl) (by simp), ?_⟩
  exact ⟨rfl, (u4.ext ((n1.tr.ext t2).ext n3.tr) (by omega)).ext d.tr⟩

theorem Exists_calls (k b : Nat) (h : Bit k b) (w : World) : Calls cx.P 159 #[.int .i64 k, .int .i64 b] w (Ret fun v w' => v = .bool true ∧ w = w') := by
  refine calls_body cx_ok (args := [.int .i64 k, .int .i64 b]) Tryz.func159 rfl 27 rfl rfl [.tmp 4] rfl ?_
  unfold Bit at h
  refine ⟨fun h0 => ⟨fun _ => ⟨fun h1 => ?_, fun h1 => absurd h1 (by omega)⟩, fun h1 => absurd h1 (by omega)⟩, fun h0 => ⟨fun _ => ⟨fun h1 => ⟨fun _ => ⟨fun h2 => ?_, fun h2 => absurd h2 (by omega)⟩, fun h2 => absurd h2 (by omega)⟩, fun h1 => absurd h1 (by omega)⟩, fun h1 => absurd h1 (by omega)⟩⟩
  · exact ⟨rfl, rfl⟩
  · exact ⟨rfl, rfl⟩

end Go.Proofs.YthepaakejpbppaaGreatDoor

/- The specification of the code: Flip, Fix. -/
namespace Go.Proofs.YthepaakejpbppaaGreatDoor
open Go.E

theorem Flip03_calls (ws : List Nat) (h8 : Line8 ws) (code k b : Nat) (hcode : code < 1024) (hb : Bit k b) (w : World) :
    Calls cx.P 154 #[.agg (wcells ws).toArray, .int .i64 code, .int .i64 k, .int .i64 b] w (Ret fun v w' => v = .tuple #[.agg (wcells (flipW ws k b)).toArray, .int .i64 (flipC code k b : Nat)] ∧ Tr [] w w') := by
  refine calls_body cx_ok (args := [.agg (wcells ws).toArray, .int .i64 code, .int .i64 k, .int .i64 b]) Tryz.func154 rfl 35 rfl rfl [.cell 8 69, .tmp 9] rfl ?_
  intro b4 w1 n1 b8 w2 n2
  have hlen := wcells_len h8
  have e1 := n1.num; have e2 := n2.num; have z1 := n1.size; have z2 := n2.size
  have B4 : Blk w2 b4 (wcells ws) 69 := n1.blk.ext n2.tr
  have B8 : Blk w2 b8 (wcells zeros8) 69 := n2.blk
  have t2 := n1.tr.ext n2.tr
  have hfl := h8.flip hb
  have hl2 := wcells_len hfl
  refine call (Exists_calls k b hb w2) ?_
  rintro _ _ ⟨rfl, rfl⟩
  refine ⟨fun h => ?_, fun h => ?_⟩
  · have hk : k = 8 := by omega
    subst hk
    have hb10 : b < 10 := by unfold Bit at hb; omega
    have h2 : 2 ^ b < 2 ^ 10 := Nat.pow_lt_pow_right (by decide) hb10
    have hws : flipW ws 8 b = ws := by simp [flipW]
    have hcd : flipC code 8 b = code ^^^ 2 ^ b := by simp [flipC]
    refine draw_rule cx_ok [b8] (Plan.takes [0, 1, 2, 3, 4] (.one true 5 (Plan.takes [6] .done))) (by kernel_rfl) ?_
    intro w3 d
    refine ⟨_, fun w' t => B4.all.tr t (by simp; omega), hlen, _, by omega, shl_nat 1 b (by omega) (by omega), _, bits_xor _ _ (by omega) (by omega), ?_⟩
    refine ⟨⟨_, _, B8.ext d.tr, hlen, by show 0 + 8 ≤ 8; decide, wcells_one _, fun w4 u4 => ⟨d.tr.of_ext.same u4.tr, ?_⟩⟩, trivial⟩
    refine ⟨_, (Upd.whole u4 rfl hlen).all, hlen, ?_, u4.ext (t2.ext d.tr) (by omega)⟩
    rw [hws, hcd, Nat.one_mul]
    rfl
  · have hk : k ≠ 8 := by omega
    have hk8 : k < 8 ∧ b < 40 := by unfold Bit at hb; omega
    obtain ⟨x, hx, hx40, hgd, hxc⟩ := h8.at hk8.1
    have h2 : 2 ^ b < 2 ^ 40 := Nat.pow_lt_pow_right (by decide) hk8.2
    refine draw_rule cx_ok [] (Plan.takes [0, 1, 2, 3, 4, 5, 6, 7] (.one false 8 .done)) (by kernel_rfl) ?_
    intro w3 d
    have t3 := t2.ext d.tr
    refine ⟨k, rfl, hk8.1, _, fun w' t => t.cell (B4.cell (by simpa using hxc)) (by simp), ?_⟩
    refine ⟨_, by omega, shl_nat 1 b (by omega) (by omega), _, bits_xor _ _ (by omega) (by omega), ?_⟩
    refine ⟨k, rfl, hk8.1, ?_⟩
    refine ⟨⟨_, _, B4.ext d.tr, by rw [hlen]; show 0 + k * 1 < 8; omega, rfl, fun w4 u4 => ?_⟩, trivial⟩
    have hws : flipW ws k b = ws.set k (x ^^^ 1 * 2 ^ b) := by simp only [flipW, if_neg hk, hgd, Nat.one_mul]
    have hcd : flipC code k b = code := by simp [flipC, hk]
    have B4' := u4.blk
    rw [show 0 + k * 1 = k by omega, ← wcells_set, ← hws] at B4'
    refine ⟨_, B4'.all, hl2, _, _, (B8.ext d.tr).tr u4.tr (by simp; omega), hl2, by show 0 + 8 ≤ 8; decide, wcells_one _, fun w5 u5 => ?_⟩
    refine ⟨_, (Upd.whole u5 rfl hl2).all, hl2, ?_, u5.ext (u4.ext t3 (by omega)) (by omega)⟩
    rw [hcd]
    rfl

theorem Fix03_calls (ws : List Nat) (h8 : Line8 ws) (code : Nat) (hcode : code < 1024) (w : World) :
    Calls cx.P 132 #[.agg (wcells ws).toArray, .int .i64 code] w (Ret fun v w' => v = fixVal (fix ws code) ∧ Tr [] w w') := by
  refine calls_body cx_ok (args := [.agg (wcells ws).toArray, .int .i64 code]) Tryz.func132 rfl 41 rfl rfl [.cell 4 69, .tmp 5, .tmp 6] rfl ?_
  intro b2 w1 n1 b4 w2 n2
  have hlen := wcells_len h8
  have e1 := n1.num; have e2 := n2.num; have z1 := n1.size; have z2 := n2.size
  have B2 : Blk w2 b2 (wcells ws) 69 := n1.blk.ext n2.tr
  have B4 : Blk w2 b4 (wcells zeros8) 69 := n2.blk
  have t2 := n1.tr.ext n2.tr
  refine ⟨_, B2.all, hlen, ?_⟩
  refine call (Valid_calls ws h8 code hcode w2) ?_
  rintro _ w3 ⟨rfl, t3⟩
  refine ⟨_, (B2.ext t3).all, hlen, ?_⟩
  refine call (Checked_calls ws h8 code hcode w3) ?_
  rintro _ w4 ⟨rfl, t4⟩
  intro b8 w5 n5
  have z3 := t3.size; have z4 := t4.size; have e5 := n5.num; have z5 := n5.size
  refine ⟨_, _, n5.blk, rfl, by show 0 + 3 ≤ 3; decide, rfl, fun w6 u6 => ?_⟩
  have z6 := u6.size
  have B8 : Blk w6 b8 (stCells (chk ws code)) 189 := Upd.whole u6 rfl rfl
  have t26 : Tr [] w2 w6 := u6.ext ((t3.ext t4).ext n5.tr) (by omega)
  have tw := t2.ext t26
  have hle := chk_le ws code
  have C2 := B2.ext t26
  have C4 := B4.ext t26
  refine ⟨_, B8.cell rfl, fun h => ?_, fun h => ⟨_, B8.cell rfl, fun h1 => ?_, fun h1 => ?_⟩⟩
  · have hs : (chk ws code).state = 2 := by omega
    have hfix : fix ws code = none := by unfold fix; rw [hs]; rfl
    refine ⟨_, rfl, _, _, C4, rfl, by show 0 + 8 ≤ 8; decide, rfl, fun w7 u7 => ⟨_, u7.blk.all, rfl, by rw [hfix]; rfl, u7.ext tw (by omega)⟩⟩
  · have hs : (chk ws code).state = 1 := by omega
    have hb := chk_bit ws code hcode hs
    refine ⟨_, C2.all, hlen, _, B8.cell rfl, _, B8.cell rfl, ?_⟩
    refine call (Flip03_calls ws h8 code _ _ hcode hb w6) ?_
    rintro _ w7 ⟨rfl, t7⟩
    have z7 := t7.size
    have hl2 := wcells_len (h8.flip hb)
    intro b9 w8 n8
    have e8 := n8.num; have z8 := n8.size
    refine ⟨_, _, n8.blk, hl2, by show 0 + 8 ≤ 8; decide, wcells_one _, fun w9 u9 => ?_⟩
    have B9 : Blk w9 b9 (wcells (flipW ws (chk ws code).word (chk ws code).bit)) 69 := Upd.whole u9 rfl hl2
    have t69 : Tr [] w6 w9 := u9.ext (t7.ext n8.tr) (by omega)
    refine ⟨_, B9.all, hl2, _, _, C4.ext t69, hl2, by show 0 + 8 ≤ 8; decide, wcells_one _, fun w10 u10 => ?_⟩
    refine ⟨_, (Upd.whole u10 rfl hl2).all, hl2, ?_, u10.ext (tw.ext t69) (by omega)⟩
    have : fix ws code = some (flip ws code (chk ws code)) := by unfold fix; rw [hs]; rfl
    rw [this, flip_eq]
    rfl
  · have hs : (chk ws code).state = 0 := by omega
    have hfix : fix ws code = some (ws, code) := by unfold fix; rw [hs]; rfl
    refine ⟨_, C2.all, hlen, _, _, C4, hlen, by show 0 + 8 ≤ 8; decide, wcells_one _, fun w7 u7 => ⟨_, (Upd.whole u7 rfl hlen).all, hlen, by rw [hfix]; rfl, u7.ext tw (by omega)⟩⟩

end Go.Proofs.YthepaakejpbppaaGreatDoor
