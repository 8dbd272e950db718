/- Contracts of package code: all but Check and Fix. -/
import Derived.Test.YtlfolinjajjgjaaDoorP1
import Derived.Test.YtlfolinjajjgjaaDoorP2
namespace Go.Proofs.YtlfolinjajjgjaaDoor
open Go.E

/-! OnesCount -/

def ocF (x : Int) : Int :=
  let a1 := bits .and .u64 (shiftv .shr .u64 x 1) 6148914691236517205
  let b1 := bits .and .u64 x 6148914691236517205
  let x1 := IntKind.u64.wrap (a1 + b1)
  let a2 := bits .and .u64 (shiftv .shr .u64 x1 2) 3689348814741910323
  let b2 := bits .and .u64 x1 3689348814741910323
  let x2 := IntKind.u64.wrap (a2 + b2)
  let x3 := bits .and .u64 (IntKind.u64.wrap (shiftv .shr .u64 x2 4 + x2)) 1085102592571150095
  let x4 := IntKind.u64.wrap (x3 + shiftv .shr .u64 x3 8)
  let x5 := IntKind.u64.wrap (x4 + shiftv .shr .u64 x4 16)
  let x6 := IntKind.u64.wrap (x5 + shiftv .shr .u64 x5 32)
  bits .and .i64 (IntKind.i64.wrap x6) 127

theorem ocF_eq : ∀ x : Nat, x < 1024 → ocF (x : Int) = (onesN x : Int) := by decide +kernel

theorem OnesCount64_calls (x : Nat) (hx : x < 1024) (w : World) : Calls cx.P 71 #[.int .u64 x] w (Ret fun v w' => v = .int .i64 (onesN x : Nat) ∧ w = w') := by
  refine calls_body cx_ok (args := [.int .u64 x]) Tryd.func71 rfl 35 rfl rfl [.tmp 2] rfl ?_
  refine ⟨_, by decide, rfl, _, rfl, _, rfl, _, rfl, _, by decide, rfl, _, rfl, _, rfl, _, rfl, _, by decide, rfl, _, rfl, _, rfl, ?_⟩
  refine ⟨_, by decide, rfl, _, rfl, _, by decide, rfl, _, rfl, _, by decide, rfl, _, rfl, _, rfl, _, ocF_eq x hx, ?_⟩
  exact ⟨rfl, rfl⟩

theorem OnesCount_calls (x : Nat) (hx : x < 1024) (w : World) : Calls cx.P 47 #[.int .u64 x] w (Ret fun v w' => v = .int .i64 (onesN x : Nat) ∧ w = w') := by
  refine calls_body cx_ok (args := [.int .u64 x]) Tryd.func47 rfl 8 rfl rfl [.tmp 2] rfl ?_
  refine call (OnesCount64_calls x hx w) ?_
  rintro _ _ ⟨rfl, rfl⟩
  exact ⟨rfl, rfl⟩

/-! TrailingZeros -/

theorem tz_tab : ∀ t, t < 40 → tab64[(2 ^ t * 285870213051353865 % 2 ^ 64) / 2 ^ 58]? = some t ∧ (2 ^ t * 285870213051353865 % 2 ^ 64) / 2 ^ 58 < 64 := by decide +kernel

theorem TrailingZeros64_calls (x : Nat) (h0 : x ≠ 0) (hx : x < 2 ^ 40) (w : World) (hg : Gl w) :
    Calls cx.P 85 #[.int .u64 x] w (Ret fun v w' => v = .int .i64 (ctzN x : Nat) ∧ w = w') := by
  have ht := ctz_lt h0 hx
  obtain ⟨h1, h2⟩ := tz_tab _ ht
  refine calls_body cx_ok (args := [.int .u64 x]) Tryd.func85 rfl 14 rfl rfl [.tmp 2] rfl ?_
  refine ⟨fun h => absurd h (by omega), fun _ => ?_⟩
  refine ⟨((2 ^ 64 - x : Nat) : Int), ?_, ((2 ^ ctzN x : Nat) : Int), ?_, ((2 ^ ctzN x * 285870213051353865 % 2 ^ 64 : Nat) : Int), ?_, _, by decide, shr_nat .u64 _ 58 (by decide), ?_⟩
  · rw [IntKind.wrap_u64]; omega
  · rw [bits_and_u _ _ (by omega) (by omega), low_bit h0 hx]
  · rw [IntKind.wrap_u64]; simp
  have hcell : w.cell? ⟨2, 0 + (2 ^ ctzN x * 285870213051353865 % 2 ^ 64 / 2 ^ 58) * 1, none⟩ = some (.int .u8 (ctzN x : Nat)) := by
    have := hg.tab _ (.int .u8 (ctzN x : Nat)) (by rw [List.getElem?_map, h1]; rfl)
    rw [Nat.mul_one]; exact this
  refine ⟨_, rfl, h2, _, hcell, _, i64_small (r := ctzN x) (by omega), ?_⟩
  exact ⟨rfl, rfl⟩

theorem TrailingZeros_calls (x : Nat) (h0 : x ≠ 0) (hx : x < 2 ^ 40) (w : World) (hg : Gl w) :
    Calls cx.P 69 #[.int .u64 x] w (Ret fun v w' => v = .int .i64 (ctzN x : Nat) ∧ w = w') := by
  refine calls_body cx_ok (args := [.int .u64 x]) Tryd.func69 rfl 8 rfl rfl [.tmp 2] rfl ?_
  refine call (TrailingZeros64_calls x h0 hx w hg) ?_
  rintro _ _ ⟨rfl, rfl⟩
  exact ⟨rfl, rfl⟩

/-! Len -/

def len8 : List UInt8 := [0, 1, 2, 2, 3, 3, 3, 3, 4, 4, 4, 4, 4, 4, 4, 4] ++ List.replicate 16 5 ++ List.replicate 32 6 ++ List.replicate 64 7 ++ List.replicate 128 8
theorem len8_eq : ∀ k, k < 256 → ∃ v, len8[k]? = some v ∧ v.toNat = lenN k := by decide +kernel
theorem lenN_8 : ∀ x, x < 1024 → 256 ≤ x → lenN x = 8 + lenN (x / 256) := by decide +kernel
theorem lenN_le : ∀ x, x < 1024 → lenN x ≤ 10 := by decide +kernel

theorem Len64_calls (x : Nat) (hx : x < 1024) (w : World) : Calls cx.P 95 #[.int .u64 x] w (Ret fun v w' => v = .int .i64 (lenN x : Nat) ∧ w = w') := by
  refine calls_body cx_ok (args := [.int .u64 x]) Tryd.func95 rfl 25 rfl rfl [.tmp 2] rfl ?_
  refine ⟨fun h => absurd h (by omega), fun _ => ⟨fun h => absurd h (by omega), fun _ => ⟨fun h => ?_, fun h => ?_⟩⟩⟩
  · obtain ⟨v, hv, hl⟩ := len8_eq (x / 256) (by omega)
    have hb := lenN_le (x / 256) (by omega)
    refine ⟨_, by decide, shr_nat .u64 x 8 (by decide), _, w64 (by omega), ((x / 256 : Nat) : Int), ?_, x / 256, rfl, ?_, v, hv, _, w64 (by omega), _, w64 (by omega), ?_⟩
    · rw [IntKind.wrap_u8]; show ((x / 2 ^ 8 : Nat) : Int) % 256 = _; omega
    · exact Nat.lt_of_lt_of_le (by omega : x / 256 < 256) (Nat.le_of_eq (by kernel_rfl))
    · refine ⟨?_, rfl⟩
      have := lenN_8 x hx (by omega)
      rw [hl, this]
      simp
  · obtain ⟨v, hv, hl⟩ := len8_eq x (by omega)
    have hb := lenN_le x (by omega)
    refine ⟨(x : Int), ?_, x, rfl, ?_, v, hv, _, w64 (by omega), _, w64 (by omega), ?_⟩
    · rw [IntKind.wrap_u8]; omega
    · exact Nat.lt_of_lt_of_le (by omega : x < 256) (Nat.le_of_eq (by kernel_rfl))
    · exact ⟨by rw [hl]; simp, rfl⟩

theorem Len_calls (x : Nat) (hx : x < 1024) (w : World) : Calls cx.P 83 #[.int .u64 x] w (Ret fun v w' => v = .int .i64 (lenN x : Nat) ∧ w = w') := by
  refine calls_body cx_ok (args := [.int .u64 x]) Tryd.func83 rfl 8 rfl rfl [.tmp 2] rfl ?_
  refine call (Len64_calls x hx w) ?_
  rintro _ _ ⟨rfl, rfl⟩
  exact ⟨rfl, rfl⟩

/-! position, valid, sum -/

theorem position_calls (k b : Nat) (hk : k < 8) (hb : b < 40) (w : World) :
    Calls cx.P 68 #[.int .i64 k, .int .i64 b] w (Ret fun v w' => v = .int .i64 (posN (40 * k + b) : Nat) ∧ w = w') := by
  have hl := lenN_le (40 * k + b + 1) (by omega)
  refine calls_body cx_ok (args := [.int .i64 k, .int .i64 b]) Tryd.func68 rfl 27 rfl rfl [.tmp 4] rfl ?_
  refine ⟨((k * 40 : Nat) : Int), ?_, ((k * 40 + b : Nat) : Int), ?_, ((40 * k + b + 1 : Nat) : Int), ?_, ((40 * k + b + 1 : Nat) : Int), ?_, ?_⟩
  · rw [w64] <;> omega
  · rw [w64] <;> omega
  · rw [w64] <;> omega
  · rw [IntKind.wrap_u64]; omega
  refine call (Len_calls (40 * k + b + 1) (by omega) w) ?_
  rintro _ _ ⟨rfl, rfl⟩
  refine ⟨((40 * k + b + 1 + lenN (40 * k + b + 1) : Nat) : Int), ?_, ((40 * k + b + 1 + lenN (40 * k + b + 1) : Nat) : Int), ?_, ?_⟩
  · rw [w64] <;> omega
  · rw [IntKind.wrap_u64]; omega
  refine call (Len_calls (40 * k + b + 1 + lenN (40 * k + b + 1)) (by omega) _) ?_
  rintro _ _ ⟨rfl, rfl⟩
  refine ⟨((40 * k + b + 1 : Nat) : Int), ?_, ?_⟩
  · rw [IntKind.wrap_u64]; omega
  refine call (Len_calls (40 * k + b + 1) (by omega) _) ?_
  rintro _ _ ⟨rfl, rfl⟩
  refine ⟨fun h => ?_, fun h => ?_⟩
  · have h' : lenN (40 * k + b + 1) < lenN (40 * k + b + 1 + lenN (40 * k + b + 1)) := by omega
    refine ⟨((posN (40 * k + b) : Nat) : Int), ?_, ?_⟩
    · rw [w64 (by omega)]; unfold posN; rw [if_pos h']; omega
    · exact ⟨rfl, rfl⟩
  · have h' : ¬ lenN (40 * k + b + 1) < lenN (40 * k + b + 1 + lenN (40 * k + b + 1)) := by omega
    refine ⟨?_, rfl⟩
    unfold posN; rw [if_neg h']; rfl

/-- Eight words as a line's cells. -/
def wcells (ws : List Nat) : List Value := ws.map fun n : Nat => .int .i64 (n : Int)

structure Line8 (ws : List Nat) : Prop where
  len : ws.length = 8
  word : ∀ x ∈ ws, x < 2 ^ 40

theorem Line8.at {ws : List Nat} (h : Line8 ws) {k : Nat} (hk : k < 8) : ∃ x, ws[k]? = some x ∧ x < 2 ^ 40 ∧ ws.getD k 0 = x ∧ (wcells ws)[k]? = some (.int .i64 x) := by
  have hlt : k < ws.length := by rw [h.len]; exact hk
  refine ⟨ws[k], List.getElem?_eq_getElem hlt, h.word _ (List.getElem_mem hlt), ?_, ?_⟩
  · simp [List.getD, hlt]
  · simp [wcells, hlt]

theorem valid_calls (ws : List Nat) (h8 : Line8 ws) (code : Nat) (hc : code < 1024) (w : World) :
    Calls cx.P 45 #[.agg (wcells ws).toArray, .int .i64 code] w (Ret fun v w' => v = .bool true ∧ Tr [] w w') := by
  refine calls_body cx_ok (args := [.agg (wcells ws).toArray, .int .i64 code]) Tryd.func45 rfl 24 rfl rfl [.tmp 4] rfl ?_
  intro b w1 n1
  have hlen : (wcells ws).length = 8 := by simp [wcells, h8.len]
  refine ⟨wcells ws, n1.blk.all, hlen, ?_⟩
  refine loop_rule cx_ok (fun k w' => k ≤ 8 ∧ w1 = w') (fun k : Nat => [(8, .int .i64 k), (7, .agg (wcells ws).toArray), (1, .int .i64 code)]) (fun k => 8 - k) 0 ⟨rfl, rfl, rfl, trivial⟩ ⟨by omega, rfl⟩ ?_
  rintro k _ ⟨hk, rfl⟩
  refine ⟨fun h => ?_, fun h => ?_⟩
  · obtain ⟨x, hx, hx40, _, hxc⟩ := h8.at (k := k) (by omega)
    refine ⟨k, rfl, by omega, _, by simpa using hxc, ?_⟩
    refine ⟨fun h => absurd h (by omega), fun _ => ⟨fun h => absurd h (by omega), fun _ => ?_⟩⟩
    refine ⟨((k + 1 : Nat) : Int), by rw [w64 (by omega)]; omega, ?_⟩
    exact ⟨rfl, k + 1, ⟨rfl, rfl, rfl, trivial⟩, ⟨by omega, rfl⟩, by omega⟩
  · refine ⟨fun _ => ⟨fun _ => ?_, fun h => absurd h (by omega)⟩, fun h => absurd h (by omega)⟩
    exact ⟨rfl, n1.tr⟩

end Go.Proofs.YtlfolinjajjgjaaDoor
