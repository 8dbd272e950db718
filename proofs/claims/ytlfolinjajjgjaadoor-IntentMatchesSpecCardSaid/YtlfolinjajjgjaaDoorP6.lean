/- Contracts of code.exists, code.Flip and code.Fix. -/
import Derived.Test.YtlfolinjajjgjaaDoorP5
namespace Go.Proofs.YtlfolinjajjgjaaDoor
open Go.E

/-- Is there a bit? -/
def Bit (k b : Nat) : Prop := (k < 8 ∧ b < 40) ∨ (k = 8 ∧ b < 10)

theorem ctz_10 : ∀ s, s < 512 → s ≠ 0 → ctzN s < 10 := by decide +kernel

theorem chk_bit (ws : List Nat) (code : Nat) (hcode : code < 1024) (h : (chk ws code).state = 1) : Bit (chk ws code).word (chk ws code).bit := by
  have hs := (synTo_bd ws 8 (by omega)).1
  have e : (syn ws).1 = (synTo ws 8).1 := rfl
  have hand : code &&& 511 < 512 := Nat.lt_of_le_of_lt Nat.and_le_right (by decide)
  have hx : (syn ws).1 ^^^ (code &&& 511) < 512 := xor_lt512 (by omega) hand
  unfold chk at h ⊢
  dsimp only at h ⊢
  split
  · split
    · exact .inr ⟨rfl, by decide⟩
    · rename_i h0
      split
      · exact .inr ⟨rfl, ctz_10 _ hx h0⟩
      · split
        · rename_i i hi
          have := List.mem_of_find?_eq_some hi
          rw [List.mem_range] at this
          exact .inl ⟨by show i / 40 < 8; omega, by show i % 40 < 40; omega⟩
        · rename_i h1 h2 _ h4
          simp only [if_pos h1, if_neg h0, if_neg h2] at h
          rw [h4] at h
          simp at h
  · rename_i h1
    simp only [if_neg h1] at h
    split at h <;> simp at h

theorem chk_le (ws : List Nat) (code : Nat) : (chk ws code).state ≤ 2 := by
  unfold chk
  dsimp only
  split
  · split
    · decide
    · split
      · show 1 ≤ 2; decide
      · split
        · show 1 ≤ 2; decide
        · decide
  · split <;> decide

theorem exists_calls (k b : Nat) (h : Bit k b) (w : World) : Calls cx.P 98 #[.int .i64 k, .int .i64 b] w (Ret fun v w' => v = .bool true ∧ w = w') := by
  refine calls_body cx_ok (args := [.int .i64 k, .int .i64 b]) Tryd.func98 rfl 31 rfl rfl [.tmp 4] rfl ?_
  refine ⟨fun _ => ⟨fun h1 => ⟨fun _ => ⟨fun h2 => ?_, fun h2 => ?_⟩, fun h => absurd h (by omega)⟩, fun h1 => ?_⟩, fun h => absurd h (by omega)⟩
  · exact ⟨rfl, rfl⟩
  · unfold Bit at h; omega
  · refine ⟨fun h2 => ⟨fun _ => ⟨fun h3 => ?_, fun h3 => ?_⟩, fun h => absurd h (by omega)⟩, fun h2 => ?_⟩
    · exact ⟨rfl, rfl⟩
    · unfold Bit at h; omega
    · unfold Bit at h; omega

def flipW (ws : List Nat) (k b : Nat) : List Nat := if k = 8 then ws else ws.set k (ws.getD k 0 ^^^ 2 ^ b)
def flipC (code k b : Nat) : Nat := if k = 8 then code ^^^ 2 ^ b else code

theorem Line8.flip {ws : List Nat} (h8 : Line8 ws) {k b : Nat} (h : Bit k b) : Line8 (flipW ws k b) := by
  unfold flipW
  split
  · exact h8
  · rename_i hk
    have hk8 : k < 8 ∧ b < 40 := by unfold Bit at h; omega
    obtain ⟨x, _, hx, hg, _⟩ := h8.at hk8.1
    refine ⟨by simp [h8.len], fun y hy => ?_⟩
    rcases List.mem_or_eq_of_mem_set hy with hy | rfl
    · exact h8.word y hy
    · rw [hg]
      exact Nat.xor_lt_two_pow hx (Nat.pow_lt_pow_right (by decide) hk8.2)

theorem flipC_lt {code k b : Nat} (hc : code < 1024) (h : Bit k b) : flipC code k b < 1024 := by
  unfold flipC
  split
  · rename_i hk
    have hb : b < 10 := by unfold Bit at h; omega
    exact Nat.xor_lt_two_pow (n := 10) hc (Nat.pow_lt_pow_right (by decide) hb)
  · exact hc

theorem wcells_set (ws : List Nat) (k x : Nat) : wcells (ws.set k x) = (wcells ws).set k (.int .i64 x) := by simp [wcells, List.map_set]

theorem splice_all {l vs : List Value} {n : Nat} (hl : l.length = n) (hv : vs.length = n) : splice l 0 n vs = vs := by
  simp [splice, ← hl]

theorem wcells_len {ws : List Nat} (h8 : Line8 ws) : (wcells ws).length = 8 := by simp [wcells, h8.len]
theorem wcells_one (ws : List Nat) : (wcells ws).all E.one = true := by simp [wcells, E.one]

theorem Flip_calls (ws : List Nat) (h8 : Line8 ws) (code k b : Nat) (hcode : code < 1024) (hb : Bit k b) (w : World) :
    Calls cx.P 90 #[.agg (wcells ws).toArray, .int .i64 code, .int .i64 k, .int .i64 b] w (Ret fun v w' => v = .tuple #[.agg (wcells (flipW ws k b)).toArray, .int .i64 (flipC code k b : Nat)] ∧ Tr [] w w') := by
  refine calls_body cx_ok (args := [.agg (wcells ws).toArray, .int .i64 code, .int .i64 k, .int .i64 b]) Tryd.func90 rfl 31 rfl rfl [.cell 8 46, .tmp 9] rfl ?_
  intro b4 w1 n1 b8 w2 n2
  have hlen := wcells_len h8
  have e1 := n1.num; have e2 := n2.num; have z1 := n1.size; have z2 := n2.size
  have B4 : Blk w2 b4 (wcells ws) 46 := n1.blk.ext n2.tr
  have t2 := n1.tr.ext n2.tr
  have hfl := h8.flip hb
  -- the end
  have fin : ∀ (W : World) (o : List Value), Tr [] w W → Blk W b4 (wcells (flipW ws k b)) 46 → Blk W b8 o 46 → o.length = 8 →
      ∃ cs, Cells W b4 0 cs ∧ cs.length = 8 ∧ (StN W b8 0 8 cs.toArray.toList fun W' => ∃ cs2, Cells W' b8 0 cs2 ∧ cs2.length = 8 ∧ (pack [.agg cs2.toArray, .int .i64 (flipC code k b : Nat)] = .tuple #[.agg (wcells (flipW ws k b)).toArray, .int .i64 (flipC code k b : Nat)] ∧ Tr [] w W')) := by
    intro W o t A4 A8 ho
    have hl2 := wcells_len hfl
    refine ⟨_, A4.all, hl2, _, _, A8, hl2, by omega, wcells_one _, fun W' u => ⟨_, ?_, hl2, rfl, u.ext t (by omega)⟩⟩
    have := u.blk.all
    rwa [splice_all ho hl2] at this
  refine call (exists_calls k b hb w2) ?_
  rintro _ _ ⟨rfl, rfl⟩
  refine ⟨fun h => ?_, fun h => ?_⟩
  · have hk : k = 8 := by omega
    subst hk
    have hb10 : b < 10 := by unfold Bit at hb; omega
    have h2 : 2 ^ b < 2 ^ 10 := Nat.pow_lt_pow_right (by decide) hb10
    refine ⟨_, by omega, shl_nat 1 b (by omega) (by omega), ((flipC code 8 b : Nat) : Int), ?_, ?_⟩
    · rw [bits_xor _ _ (by omega) (by omega)]; simp [flipC]
    · have hws : flipW ws 8 b = ws := by simp [flipW]
      exact fin w2 _ t2 (hws ▸ B4) n2.blk rfl
  · have hk : k ≠ 8 := by omega
    have hk8 : k < 8 ∧ b < 40 := by unfold Bit at hb; omega
    obtain ⟨x, hx, hx40, hgd, hxc⟩ := h8.at hk8.1
    have h2 : 2 ^ b < 2 ^ 40 := Nat.pow_lt_pow_right (by decide) hk8.2
    refine draw_rule cx_ok [] (Plan.takes [0, 1, 2, 3, 4, 5, 6] (.one false 7 .done)) (by kernel_rfl) ?_
    intro w3 d
    have t3 := t2.ext d.tr
    refine ⟨k, rfl, hk8.1, _, fun w' t => t.cell (B4.cell (by simpa using hxc)) (by simp), ?_⟩
    refine ⟨_, by omega, shl_nat 1 b (by omega) (by omega), _, bits_xor _ _ (by omega) (by omega), ?_⟩
    refine ⟨k, rfl, hk8.1, ?_⟩
    refine ⟨⟨_, _, B4.ext d.tr, by rw [hlen]; show 0 + k * 1 < 8; omega, rfl, fun w4 u4 => ?_⟩, trivial⟩
    have hws : flipW ws k b = ws.set k (x ^^^ 1 * 2 ^ b) := by simp only [flipW, if_neg hk, hgd, Nat.one_mul]
    have hcd : flipC code k b = code := by simp [flipC, hk]
    have B4' := u4.blk
    rw [show 0 + k * 1 = k by omega, ← wcells_set, ← hws] at B4'
    have := fin w4 _ (u4.ext t3 (by omega)) B4' ((n2.blk.ext d.tr).tr u4.tr (by simp; omega)) rfl
    rwa [hcd] at this ⊢

/-- What Fix returns as values. -/
def fixVal : Option (List Nat × Nat) → Value
  | some (ws, code) => .tuple #[.agg (wcells ws).toArray, .int .i64 (code : Nat), .int .i64 0]
  | none => .tuple #[.agg (wcells (List.replicate 8 0)).toArray, .int .i64 0, .int .i64 9]

theorem flip_eq (ws : List Nat) (code : Nat) (st : St) : flip ws code st = (flipW ws st.word st.bit, flipC code st.word st.bit) := by
  unfold flip flipW flipC
  split <;> rfl

theorem fix_line {ws vs : List Nat} {code c : Nat} (h8 : Line8 ws) (hcode : code < 1024) (h : fix ws code = some (vs, c)) : Line8 vs ∧ c < 1024 := by
  unfold fix at h
  split at h
  · simp only [Option.some.injEq, Prod.mk.injEq] at h
    obtain ⟨rfl, rfl⟩ := h
    exact ⟨h8, hcode⟩
  · rename_i h1
    have hb := chk_bit ws code hcode h1
    rw [flip_eq] at h
    simp only [Option.some.injEq, Prod.mk.injEq] at h
    obtain ⟨rfl, rfl⟩ := h
    exact ⟨h8.flip hb, flipC_lt hcode hb⟩
  · simp at h

theorem Fix_calls (ws : List Nat) (h8 : Line8 ws) (code : Nat) (hcode : code < 1024) (w : World) (hg : Gl w) :
    Calls cx.P 78 #[.agg (wcells ws).toArray, .int .i64 code] w (Ret fun v w' => v = fixVal (fix ws code) ∧ Tr [] w w') := by
  refine calls_body cx_ok (args := [.agg (wcells ws).toArray, .int .i64 code]) Tryd.func78 rfl 38 rfl rfl [.cell 4 46, .tmp 5, .tmp 6] rfl ?_
  intro b2 w1 n1 b4 w2 n2
  have hlen := wcells_len h8
  have e1 := n1.num; have e2 := n2.num; have z1 := n1.size; have z2 := n2.size
  have B2 : Blk w2 b2 (wcells ws) 46 := n1.blk.ext n2.tr
  have t2 := n1.tr.ext n2.tr
  refine ⟨_, B2.all, hlen, ?_⟩
  refine call (valid_calls ws h8 code hcode w2) ?_
  rintro _ w3 ⟨rfl, t3⟩
  refine ⟨_, (B2.ext t3).all, hlen, ?_⟩
  refine call (Check_calls ws h8 code hcode w3 (hg.ext (t2.ext t3))) ?_
  rintro _ w4 ⟨rfl, t4⟩
  have z3 := t3.size; have z4 := t4.size
  have C2 := (B2.ext t3).ext t4
  have C4 := (n2.blk.ext t3).ext t4
  have tw := (t2.ext t3).ext t4
  have hle := chk_le ws code
  -- the end, with what Fix returns in the first variable
  have fin : ∀ (W : World) (vs : List Nat) (c : Nat), Line8 vs → Tr [] w W → Blk W b2 (wcells vs) 46 → Blk W b4 (List.replicate 8 (.int .i64 0)) 46 → fix ws code = some (vs, c) →
      ∃ cs, Cells W b2 0 cs ∧ cs.length = 8 ∧ (StN W b4 0 8 cs.toArray.toList fun W' => ∃ cs2, Cells W' b4 0 cs2 ∧ cs2.length = 8 ∧ (pack [.agg cs2.toArray, .int .i64 (c : Nat), .int .i64 0] = fixVal (fix ws code) ∧ Tr [] w W')) := by
    intro W vs c hv t A2 A4 hfix
    have hl2 := wcells_len hv
    refine ⟨_, A2.all, hl2, _, _, A4, hl2, by simp, wcells_one _, fun W' u => ⟨_, ?_, hl2, by rw [hfix]; rfl, u.ext t (by omega)⟩⟩
    have := u.blk.all
    rwa [splice_all (by simp) hl2] at this
  refine ⟨fun h => ?_, fun h => ⟨fun h1 => ?_, fun h1 => ?_⟩⟩
  · have hs : (chk ws code).state = 2 := by omega
    have hfix : fix ws code = none := by unfold fix; rw [hs]; rfl
    refine ⟨_, rfl, _, _, C4, rfl, by show 0 + 8 ≤ 8; decide, rfl, fun w5 u5 => ⟨_, ?_, rfl, by rw [hfix]; rfl, u5.ext tw (by omega)⟩⟩
    exact u5.blk.all
  · have hs : (chk ws code).state = 1 := by omega
    have hb := chk_bit ws code hcode hs
    refine ⟨_, C2.all, hlen, ?_⟩
    refine call (Flip_calls ws h8 code _ _ hcode hb w4) ?_
    rintro _ w5 ⟨rfl, t5⟩
    have hl2 := wcells_len (h8.flip hb)
    have z5 := t5.size
    refine ⟨_, _, C2.ext t5, hl2, by rw [hlen]; decide, wcells_one _, fun w6 u6 => ?_⟩
    have D2 := u6.blk
    rw [splice_all hlen hl2] at D2
    exact fin w6 _ _ (h8.flip hb) (u6.ext (tw.ext t5) (by omega)) D2 ((C4.ext t5).tr u6.tr (by simp; omega)) (by unfold fix; rw [hs]; show some (flip ws code (chk ws code)) = _; rw [flip_eq])
  · have hs : (chk ws code).state = 0 := by omega
    exact fin w4 ws code h8 tw C2 C4 (by unfold fix; rw [hs]; rfl)

end Go.Proofs.YtlfolinjajjgjaaDoor
