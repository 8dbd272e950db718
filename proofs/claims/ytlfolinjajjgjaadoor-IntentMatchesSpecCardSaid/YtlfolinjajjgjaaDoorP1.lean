/- Contracts of the small functions (pointer, words). -/
import Derived.Test.YtlfolinjajjgjaaDoorET
import Derived.Test.YtlfolinjajjgjaaDoorP0
namespace Go.Proofs.YtlfolinjajjgjaaDoor
open Go.E

theorem w64 {x : Int} (h : -9223372036854775808 ≤ x ∧ x ≤ 9223372036854775807) : IntKind.i64.wrap x = x := IntWalk.i64_in x h

theorem call {f : Nat} {args : Array Value} {w : World} {Φ K : Value → World → Prop} (h : Calls cx.P f args w (Ret Φ)) (k : ∀ v w', Φ v w' → K v w') : CallP cx.P f args w K := Ret.imp h k

theorem pointer_word_calls (x : Int) (w : World) : Calls cx.P 73 #[.int .i64 x] w (Ret fun v w' => v = .bool (decide (0 ≤ x ∧ x ≤ 1099511627775)) ∧ w = w') := by
  refine calls_body cx_ok (args := [.int .i64 x]) Tryd.func73 rfl 9 rfl rfl [.tmp 2] rfl ?_
  refine ⟨fun h0 => ⟨fun h1 => ?_, fun h1 => ?_⟩, fun h0 => ?_⟩
  · exact ⟨by simp [h0, h1], rfl⟩
  · exact ⟨by simp [h1], rfl⟩
  · exact ⟨by simp [h0], rfl⟩

theorem of_calls (p : Int) (w : World) : Calls cx.P 72 #[.int .i64 p] w (Ret fun v w' => Tr [] w w' ∧ ∃ b, v = .func (.func 86) #[] #[.pointer (some ⟨b, 0, none⟩)] ∧ Blk w' b [.int .i64 p] 3) := by
  refine calls_body cx_ok (args := [.int .i64 p]) Tryd.func72 rfl 4 rfl rfl [.tmp 2] rfl ?_
  intro b w1 n1
  exact ⟨n1.tr, b, rfl, n1.blk⟩

def part (p n k : Nat) : Nat := (p / 2 ^ n) % 2 ^ k

theorem of1_calls (p n k b : Nat) (w : World) (hb : Blk w b [.int .i64 p] 3) (hp : p < 2 ^ 63) (hn : n ≤ 64) (hk : k < 63) :
    Calls cx.P 86 #[.agg #[.int .i64 n, .int .i64 k], .pointer (some ⟨b, 0, none⟩)] w (Ret fun v w' => v = .int .i64 (part p n k : Nat) ∧ Tr [] w w') := by
  refine calls_body cx_ok (args := [.agg #[.int .i64 n, .int .i64 k], .pointer (some ⟨b, 0, none⟩)]) Tryd.func86 rfl 13 rfl rfl [.tmp 3] rfl ?_
  intro b2 w1 n1
  refine draw_rule cx_ok [] (Plan.takes [0, 1, 2, 3, 4, 5, 6, 7, 8, 9] .done) (by kernel_rfl) ?_
  intro w2 d
  have hb1 := hb.ext n1.tr
  have h2 : 2 ^ k < 2 ^ 63 := Nat.pow_lt_pow_right (by omega) hk
  have hpos : 0 < 2 ^ k := Nat.two_pow_pos k
  have hdiv : p / 2 ^ n < 2 ^ 63 := Nat.lt_of_le_of_lt (Nat.div_le_self _ _) hp
  refine ⟨_, fun w' t => t.cell (hb1.cell rfl) (by simp), _, fun w' t => t.cell (n1.blk.cell rfl) (by simp), _, by omega, shr_nat .i64 p n hn, ?_⟩
  refine ⟨_, fun w' t => t.cell (n1.blk.cell rfl) (by simp), _, by omega, shl_nat 1 k (by omega) (by omega), ((2 ^ k - 1 : Nat) : Int), ?_, _, bits_and _ _ hdiv (by omega), ?_⟩
  · rw [w64] <;> omega
  · exact ⟨by rw [and_mask]; rfl, n1.tr.ext d.tr⟩

def tab64 : List Nat := [0, 1, 56, 2, 57, 49, 28, 3, 61, 58, 42, 50, 38, 29, 17, 4, 62, 47, 59, 36, 45, 43, 51, 22, 53, 39, 33, 30, 24, 18, 12, 5, 63, 55, 48, 27, 60, 41, 37, 16, 46, 35, 44, 21, 52, 32, 23, 11, 54, 26, 40, 15, 34, 20, 31, 10, 25, 14, 19, 9, 13, 8, 7, 6]

/-- The tables stand as the program's text lays them. -/
structure Gl (w : World) : Prop where
  ptrs : Cells w 0 0 [.int .i64 0, .int .i64 12, .int .i64 12, .int .i64 20]
  tab : Cells w 2 0 (tab64.map fun n : Nat => .int .u8 (n : Int))
  size : 3 ≤ w.heap.size

theorem Gl.tr {S : List Nat} {w w' : World} (h : Gl w) (t : Tr S w w') (hs : ∀ b ∈ S, 3 ≤ b) : Gl w' :=
  ⟨h.ptrs.tr t (fun hm => by have := hs _ hm; omega), h.tab.tr t (fun hm => by have := hs _ hm; omega), Nat.le_trans h.size t.size⟩
theorem Gl.ext {w w' : World} (h : Gl w) (t : Tr [] w w') : Gl w' := h.tr t (by simp)

def rightP (p : Int) : Bool := decide (p = 0 ∨ (0 ≤ p ∧ p < 4294967296 ∧ 0 < p % 4096 ∧ 0 < p / 4096))

theorem rightP_nat {q : Nat} (h : q < 4294967296) : (0 < part q 0 12 ∧ 0 < part q 12 20) ↔ (0 < (q : Int) % 4096 ∧ 0 < (q : Int) / 4096) := by
  unfold part
  simp only [Nat.pow_zero, Nat.div_one, show 2 ^ 12 = 4096 from rfl, show 2 ^ 20 = 1048576 from rfl]
  omega

theorem Right_calls (p : Int) (w : World) (hg : Gl w) : Calls cx.P 48 #[.int .i64 p] w (Ret fun v w' => v = .bool (rightP p) ∧ Tr [] w w') := by
  refine calls_body cx_ok (args := [.int .i64 p]) Tryd.func48 rfl 31 rfl rfl [.tmp 2] rfl ?_
  refine call (of_calls p w) ?_
  rintro _ w1 ⟨t1, b, rfl, hb⟩
  refine ⟨fun h0 => ?_, fun h0 => ?_⟩
  · exact ⟨by simp [rightP, h0], t1⟩
  refine call (pointer_word_calls p w1) ?_
  rintro v _ ⟨hv, rfl⟩
  by_cases hw : 0 ≤ p ∧ p ≤ 1099511627775
  · rw [decide_eq_true hw] at hv
    subst hv
    obtain ⟨q, rfl⟩ := Int.eq_ofNat_of_zero_le hw.1
    have hq : q < 1099511627776 := by omega
    refine ⟨_, by decide, shr_nat .i64 q 32 (by decide), ?_⟩
    refine ⟨fun h1 => ?_, fun h1 => ?_⟩
    · have hq2 : q < 4294967296 := by omega
      have hr := rightP_nat hq2
      refine ⟨0, rfl, by decide, [.int .i64 0, .int .i64 12], ?_, rfl, ?_⟩
      · have := (hg.ext t1).ptrs
        exact fun i v hi => this i v (by rcases i with _ | _ | i <;> simp_all)
      refine call (of1_calls q 0 12 b w1 hb (by omega) (by decide) (by decide)) ?_
      rintro _ w3 ⟨rfl, t3⟩
      refine ⟨fun h2 => ?_, fun h2 => ?_⟩
      · refine ⟨1, rfl, by decide, [.int .i64 12, .int .i64 20], ?_, rfl, ?_⟩
        · have := (hg.ext (t1.ext t3)).ptrs
          exact fun i v hi => by have := this (2 + i) v (by rcases i with _ | _ | i <;> simp_all); rw [show 0 + (2 + i) = 0 + 1 * 2 + i by omega] at this; exact this
        refine call (of1_calls q 12 20 b w3 (hb.ext t3) (by omega) (by decide) (by decide)) ?_
        rintro _ w4 ⟨rfl, t4⟩
        refine ⟨fun h3 => ?_, fun h3 => ?_⟩
        · exact ⟨by simp [rightP]; omega, (t1.ext t3).ext t4⟩
        · exact ⟨by simp [rightP]; omega, (t1.ext t3).ext t4⟩
      · exact ⟨by simp [rightP]; omega, t1.ext t3⟩
    · exact ⟨by simp [rightP]; omega, t1⟩
  · rw [decide_eq_false hw] at hv
    subst hv
    exact ⟨by simp [rightP]; omega, t1⟩

end Go.Proofs.YtlfolinjajjgjaaDoor
