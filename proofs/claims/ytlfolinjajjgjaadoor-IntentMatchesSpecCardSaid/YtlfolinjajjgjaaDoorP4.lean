/- Contracts of code.sum and code.Encode. -/
import Derived.Test.YtlfolinjajjgjaaDoorP3
namespace Go.Proofs.YtlfolinjajjgjaaDoor
open Go.E

theorem sum_calls (ws : List Nat) (h8 : Line8 ws) (w : World) (hg : Gl w) :
    Calls cx.P 46 #[.agg (wcells ws).toArray] w (Ret fun v w' => v = .tuple #[.int .i64 ((syn ws).1 : Nat), .int .i64 ((syn ws).2 : Nat)] ∧ Tr [] w w') := by
  refine calls_body cx_ok (args := [.agg (wcells ws).toArray]) Tryd.func46 rfl 29 rfl rfl [.tmp 2, .tmp 3] rfl ?_
  intro b w1 n1
  have hlen : (wcells ws).length = 8 := by simp [wcells, h8.len]
  have hg1 := hg.ext n1.tr
  refine ⟨wcells ws, n1.blk.all, hlen, ?_⟩
  refine loop_rule cx_ok (fun k w' => k ≤ 8 ∧ w1 = w')
    (fun k : Nat => [(7, .int .i64 k), (6, .agg (wcells ws).toArray), (2, .int .i64 ((synTo ws k).1 : Nat)), (3, .int .i64 ((synTo ws k).2 : Nat))]) (fun k => 8 - k) 0
    ⟨rfl, rfl, rfl, rfl, trivial⟩ ⟨by omega, rfl⟩ ?_
  rintro k _ ⟨hk, rfl⟩
  have hbd := synTo_bd ws k hk
  refine ⟨fun h => ?_, fun h => ?_⟩
  · obtain ⟨x, hx, hx40, hgd, hxc⟩ := h8.at (k := k) (by omega)
    refine ⟨k, rfl, by omega, _, by simpa using hxc, ?_⟩
    refine loop_rule cx_ok (α := Nat × Nat × Nat) (fun (⟨y, s, n⟩ : Nat × Nat × Nat) w' => y < 2 ^ 40 ∧ s < 512 ∧ n + (bitsL y).length ≤ 40 * (k + 1) ∧ synW k y (s, n) = synTo ws (k + 1) ∧ w1 = w')
      (fun (⟨y, s, n⟩ : Nat × Nat × Nat) => [(7, .int .i64 k), (6, .agg (wcells ws).toArray), (4, .int .i64 k), (5, .int .i64 (y : Nat)), (2, .int .i64 (s : Nat)), (3, .int .i64 (n : Nat))]) (fun p => p.1) (x, (synTo ws k).1, (synTo ws k).2)
      ⟨rfl, rfl, rfl, rfl, rfl, rfl, trivial⟩ ⟨hx40, hbd.1, ?_, by rw [synTo, hgd], rfl⟩ ?_
    · have := bitsL_len x
      have := hbd.2
      show (synTo ws k).2 + (bitsL x).length ≤ _
      omega
    rintro ⟨y, s, n⟩ _ ⟨hy, hs, hn, hsyn, rfl⟩
    refine ⟨fun h => ?_, fun h => ?_⟩
    · have h0 : y = 0 := by simpa using h
      subst h0
      rw [synW_zero] at hsyn
      refine ⟨((k + 1 : Nat) : Int), by rw [w64 (by omega)]; omega, ?_⟩
      refine ⟨rfl, k + 1, ⟨rfl, rfl, ?_, ?_, trivial⟩, ⟨by omega, rfl⟩, by omega⟩
      · rw [← hsyn]; rfl
      · rw [← hsyn]; rfl
    · have h0 : y ≠ 0 := fun e => h (by rw [e]; rfl)
      have ht := ctz_lt h0 hy
      have hp := posN_lt (40 * k + ctzN y) (by omega)
      have hst := bitsL_step h0 hy
      have hl : (bitsL y).length = (bitsL (y &&& (y - 1))).length + 1 := by rw [hst]; rfl
      rw [synW_step h0 hy] at hsyn
      refine ⟨((y : Nat) : Int), by rw [IntKind.wrap_u64]; omega, ?_⟩
      refine call (TrailingZeros_calls y h0 hy _ hg1) ?_
      rintro _ _ ⟨rfl, rfl⟩
      refine call (position_calls k (ctzN y) (by omega) ht _) ?_
      rintro _ _ ⟨rfl, rfl⟩
      refine ⟨_, bits_xor s (posN (40 * k + ctzN y)) (by omega) (by omega), ((n + 1 : Nat) : Int), by rw [w64 (by omega)]; omega, ((y - 1 : Nat) : Int), by rw [w64 (by omega)]; omega, _, bits_and y (y - 1) (by omega) (by omega), ?_⟩
      have hlt := and_pred_lt h0
      refine ⟨rfl, (y &&& (y - 1), s ^^^ posN (40 * k + ctzN y), n + 1), ⟨rfl, rfl, rfl, rfl, rfl, rfl, trivial⟩, ⟨by omega, xor_lt512 hs hp, by omega, hsyn, rfl⟩, hlt⟩
  · obtain rfl : k = 8 := by omega
    exact ⟨rfl, n1.tr⟩

theorem Encode_calls (ws : List Nat) (h8 : Line8 ws) (w : World) (hg : Gl w) :
    Calls cx.P 24 #[.agg (wcells ws).toArray] w (Ret fun v w' => v = .int .i64 (enc ws : Nat) ∧ Tr [] w w') := by
  refine calls_body cx_ok (args := [.agg (wcells ws).toArray]) Tryd.func24 rfl 23 rfl rfl [.tmp 2] rfl ?_
  intro b w1 n1
  have hlen : (wcells ws).length = 8 := by simp [wcells, h8.len]
  have hb := synTo_bd ws 8 (by omega)
  have hb1 : (syn ws).1 < 512 := hb.1
  have hb2 : (syn ws).2 ≤ 320 := hb.2
  refine ⟨wcells ws, n1.blk.all, hlen, ?_⟩
  refine call (valid_calls ws h8 0 (by omega) w1) ?_
  rintro _ w2 ⟨rfl, t2⟩
  have t12 := n1.tr.ext t2
  refine ⟨wcells ws, (n1.blk.ext t2).all, hlen, ?_⟩
  refine call (sum_calls ws h8 w2 (hg.ext t12)) ?_
  rintro _ w3 ⟨rfl, t3⟩
  have t13 := t12.ext t3
  refine ⟨((syn ws).1 : Int), by rw [IntKind.wrap_u64]; omega, ?_⟩
  refine call (OnesCount_calls (syn ws).1 (by omega) w3) ?_
  rintro _ _ ⟨rfl, rfl⟩
  have ho : onesN (syn ws).1 ≤ 10 := by
    have := List.length_filter_le (fun i => (syn ws).1.testBit i) (List.range 10)
    simpa [onesN] using this
  refine ⟨(((syn ws).2 + onesN (syn ws).1 : Nat) : Int), by rw [w64 (by omega)]; omega, ((((syn ws).2 + onesN (syn ws).1) % 2 : Nat) : Int), by decide, ?_, ?_⟩
  · rw [IntWalk.rem_in _ _ (by omega)]; omega
  refine ⟨fun h => ?_, fun h => ?_⟩
  · have h' : ((syn ws).2 + onesN (syn ws).1) % 2 = 1 := by omega
    refine ⟨_, bits_or (syn ws).1 512 (by omega) (by omega), ?_⟩
    exact ⟨by unfold enc; rw [if_pos h']; rfl, t13⟩
  · have h' : ¬ ((syn ws).2 + onesN (syn ws).1) % 2 = 1 := by omega
    exact ⟨by unfold enc; rw [if_neg h']; rfl, t13⟩

end Go.Proofs.YtlfolinjajjgjaaDoor
