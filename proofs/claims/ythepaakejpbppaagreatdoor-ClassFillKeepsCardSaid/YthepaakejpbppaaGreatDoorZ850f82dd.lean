/- Part 5 of the proof: O5, O6, O7, O8, O9, Y0, V0, V1, V2, V3, V4, V5 -/
import Derived.Test.YthepaakejpbppaaGreatDoorZc8b63217

/- Plan of 64 to 103 lines. -/
namespace Go.Proofs.YthepaakejpbppaaGreatDoor
open Go.E

theorem min_run (P : Program) (a b : Int) (t : Nat) (ats : Array TypeId) (w : World) : (Builtin.min_ ats t #[.int .i64 a, .int .i64 b]).run P w = .ok (.int .i64 (if b < a then b else a)) w := by
  simp [Builtin.min_, Builtin.min2]

def lcN (a b c d e f g h : Int) : List Value := [.int .i64 a, .int .i64 b, .int .i64 c, .int .i64 d, .int .i64 e, .int .i64 f, .int .i64 g, .int .i64 h]

set_option maxHeartbeats 1000000 in
theorem Plan_calls (n : Nat) (hn : InL n) (w : World) :
    Calls cx.P 42 #[.int .i64 (n : Nat)] w (Ret fun v w' => v = .tuple #[.agg (lcs n).toArray, .int .i64 0] ∧ Tr [] w w') := by
  have h64 : 64 ≤ n ∧ n ≤ 103 := hn
  refine calls_body cx_ok (args := [.int .i64 (n : Nat)]) Tryz.func42 rfl 58 rfl rfl [.cell 2 28, .tmp 3] rfl ?_
  intro b2 w1 n1
  have e1 := n1.num; have z1 := n1.size
  have B2 : Blk w1 b2 (lcN 0 0 0 0 0 0 0 0) 28 := n1.blk
  refine ⟨fun h => absurd h (by omega), fun _ => ⟨fun h => absurd h (by omega), fun _ => ?_⟩⟩
  refine ⟨_, rfl, ?_⟩
  intro b4 w2 n2
  have e2 := n2.num; have z2 := n2.size
  refine ⟨_, _, n2.blk, rfl, by show 0 + 8 ≤ 8; decide, rfl, fun w3 u3 => ?_⟩
  have z3 := u3.size
  have B4 : Blk w3 b4 (lcN n 2 0 0 0 0 0 0) 28 := u3.blk
  have t3 : Tr [] w1 w3 := u3.ext n2.tr (by omega)
  refine ⟨((n / 16 : Nat) : Int), by decide, by rw [IntWalk.i64_quo _ _ (by omega)]; omega, _, w3, max_run _ _ _ _ _ _, ?_⟩
  have hx : (if ((n / 16 : Nat) : Int) > 8 then ((n / 16 : Nat) : Int) else 8) = 8 := by rw [if_neg (by omega)]
  rw [hx]
  refine ⟨_, _, B4, by show 0 + 2 < 8; decide, rfl, fun w4 u4 => ?_⟩
  have z4 := u4.size
  have B4 : Blk w4 b4 (lcN n 2 8 0 0 0 0 0) 28 := u4.blk
  have t4 : Tr [] w1 w4 := u4.ext t3 (by omega)
  refine ⟨_, B4.cell rfl, _, B4.cell rfl, 10, by decide, _, _, B4, by show 0 + 3 < 8; decide, rfl, fun w5 u5 => ?_⟩
  have z5 := u5.size
  have B4 : Blk w5 b4 (lcN n 2 8 10 0 0 0 0) 28 := u5.blk
  have t5 : Tr [] w1 w5 := u5.ext t4 (by omega)
  refine ⟨((n / 32 : Nat) : Int), by decide, by rw [IntWalk.i64_quo _ _ (by omega)]; omega, _, w5, max_run _ _ _ _ _ _, _, w5, min_run _ _ _ _ _ _, ?_⟩
  have hx : (if (if ((n / 32 : Nat) : Int) > 4 then ((n / 32 : Nat) : Int) else 4) < 16 then (if ((n / 32 : Nat) : Int) > 4 then ((n / 32 : Nat) : Int) else 4) else 16) = 4 := by rw [if_neg (show ¬ ((n / 32 : Nat) : Int) > 4 by omega)]; rfl
  rw [hx]
  refine ⟨_, _, B4, by show 0 + 4 < 8; decide, rfl, fun w6 u6 => ?_⟩
  have z6 := u6.size
  have B4 : Blk w6 b4 (lcN n 2 8 10 4 0 0 0) 28 := u6.blk
  have t6 : Tr [] w1 w6 := u6.ext t5 (by omega)
  refine ⟨_, B4.cell rfl, _, B4.cell rfl, 14, by decide, _, _, B4, by show 0 + 5 < 8; decide, rfl, fun w7 u7 => ?_⟩
  have z7 := u7.size
  have B4 : Blk w7 b4 (lcN n 2 8 10 4 14 0 0) 28 := u7.blk
  have t7 : Tr [] w1 w7 := u7.ext t6 (by omega)
  refine ⟨_, B4.cell rfl, ((n / 16 : Nat) : Int), by decide, by rw [IntWalk.i64_quo _ _ (by omega)]; omega, ((n / 16 + 7 : Nat) : Int), by rw [w64 (by omega)]; omega, 1, by decide, by rw [IntWalk.i64_quo _ _ (by omega)]; omega, 15, by decide, _, _, B4, by show 0 + 6 < 8; decide, rfl, fun w8 u8 => ?_⟩
  have z8 := u8.size
  have B4 : Blk w8 b4 (lcN n 2 8 10 4 14 15 0) 28 := u8.blk
  have t8 : Tr [] w1 w8 := u8.ext t7 (by omega)
  refine loop_rule cx_ok (fun (k : Nat) W => k ≤ 1 ∧ Tr [] w1 W ∧ Blk W b4 (lcN n 2 8 10 4 14 (15 + (k : Nat)) 0) 28) (fun k : Nat => [(0, .int .i64 (n : Nat)), (2, .pointer (some ⟨b2, 0, none⟩)), (4, .pointer (some ⟨b4, 0, none⟩))]) (fun k => 1 - k) 0 ⟨rfl, rfl, rfl, trivial⟩ ⟨by omega, t8, B4⟩ ?_
  rintro k W ⟨hk, tW, BW⟩
  have zW := tW.size
  refine ⟨_, BW.cell rfl, _, by decide, IntWalk.rem_in _ _ (by omega), fun heq => ?_, fun hne => ?_⟩
  · obtain rfl : k = 1 := by omega
    refine ⟨_, BW.cell rfl, ((n - 16 : Nat) : Int), by rw [w64 (by omega)]; omega, ((chunksN n : Nat) : Int), by decide, ?_, _, _, BW, by show 0 + 7 < 8; decide, rfl, fun w9 u9 => ?_⟩
    · rw [IntWalk.i64_quo _ _ (by omega)]; unfold chunksN; omega
    have z9 := u9.size
    have B9 : Blk w9 b4 (lcs n) 28 := u9.blk
    have t9 : Tr [] w1 w9 := u9.ext tW (by omega)
    refine ⟨_, B9.all, rfl, _, _, B2.ext t9, rfl, by show 0 + 8 ≤ 8; decide, rfl, fun w10 u10 => ?_⟩
    exact ⟨_, u10.blk.all, rfl, rfl, u10.ext (n1.tr.ext t9) (by omega)⟩
  · obtain rfl : k = 0 := by omega
    refine ⟨_, BW.cell rfl, 16, by decide, _, _, BW, by show 0 + 6 < 8; decide, rfl, fun w9 u9 => ?_⟩
    exact ⟨rfl, 1, ⟨rfl, rfl, rfl, trivial⟩, ⟨by omega, u9.ext tW (by omega), u9.blk⟩, by omega⟩

end Go.Proofs.YthepaakejpbppaaGreatDoor

/- class: Fit; what the examples come to. -/
namespace Go.Proofs.YthepaakejpbppaaGreatDoor
open Go.E

def fitL (x : Int) : Int × Int := if x < 0 then (0, 1) else if x ≤ 7 then (0, 0) else if x ≤ 15 then (1, 0) else if x ≤ 31 then (2, 0) else if x ≤ 63 then (3, 0) else if x ≤ 127 then (4, 0) else (0, 2)

theorem room_at : ∀ k : Nat, k < 5 → roomP k = [7, 15, 31, 63, 127].getD k 0 := by decide

theorem Fit_calls (x : Int) (w : World) : Calls cx.P 44 #[.int .i64 x] w (Ret fun v w' => v = .tuple #[.int .i64 (fitL x).1, .int .i64 (fitL x).2] ∧ w = w') := by
  refine calls_body cx_ok (args := [.int .i64 x]) Tryz.func44 rfl 16 rfl rfl [.tmp 2, .tmp 3] rfl ?_
  refine ⟨fun h0 => ⟨by unfold fitL; rw [if_pos h0]; rfl, rfl⟩, fun h0 => ?_⟩
  refine loop_rule cx_ok (fun (k : Nat) W => (k ≤ 5 ∧ ∀ c, c < k → roomP (c : Nat) < x) ∧ w = W) (fun k : Nat => [(0, .int .i64 x), (7, .int .i64 (k : Nat))]) (fun k => 5 - k) 0 ⟨rfl, rfl, trivial⟩ ⟨⟨by omega, fun c hc => by omega⟩, rfl⟩ ?_
  rintro k _ ⟨⟨hk, hno⟩, rfl⟩
  have h5 : ∀ c, c < k → [7, 15, 31, 63, 127].getD c 0 < x := fun c hc => by rw [← room_at c (by omega)]; exact hno c hc
  refine ⟨fun hlt => ?_, fun hge => ?_⟩
  · have hk5 : k < 5 := by omega
    refine call (Room_calls (k : Nat) w) ?_
    rintro _ _ ⟨rfl, rfl⟩
    refine ⟨fun hge => ?_, fun hlt2 => ?_⟩
    · have hr := room_at k hk5
      have hge' : x ≤ roomP (k : Nat) := hge
      rw [hr] at hge'
      refine ⟨?_, rfl⟩
      have : fitL x = (((k : Nat) : Int), 0) := by
        unfold fitL
        rw [if_neg h0]
        rcases k with _ | _ | _ | _ | _ | k
        · rw [if_pos (by simp at hge'; omega)]; rfl
        · have := h5 0 (by omega); rw [if_neg (by simp at this; omega), if_pos (by simp at hge'; omega)]; rfl
        · have := h5 1 (by omega); rw [if_neg (by simp at this; omega), if_neg (by simp at this; omega), if_pos (by simp at hge'; omega)]; rfl
        · have := h5 2 (by omega); rw [if_neg (by simp at this; omega), if_neg (by simp at this; omega), if_neg (by simp at this; omega), if_pos (by simp at hge'; omega)]; rfl
        · have := h5 3 (by omega); rw [if_neg (by simp at this; omega), if_neg (by simp at this; omega), if_neg (by simp at this; omega), if_neg (by simp at this; omega), if_pos (by simp at hge'; omega)]; rfl
        · omega
      rw [this]; rfl
    · refine ⟨((k + 1 : Nat) : Int), by rw [w64 (by omega)]; omega, ?_⟩
      refine ⟨rfl, k + 1, ⟨rfl, rfl, trivial⟩, ⟨⟨by omega, fun c hc => ?_⟩, rfl⟩, by omega⟩
      by_cases hck : c = k
      · subst hck
        have : ¬ x ≤ roomP (c : Nat) := hlt2
        omega
      · exact hno c (by omega)
  · obtain rfl : k = 5 := by omega
    have := h5 4 (by omega)
    simp at this
    refine ⟨?_, rfl⟩
    have : fitL x = (0, 2) := by unfold fitL; rw [if_neg h0, if_neg (by omega), if_neg (by omega), if_neg (by omega), if_neg (by omega), if_neg (by omega)]
    rw [this]; rfl

/-- The lines of the examples. -/
def L0 : List Ln := List.replicate 64 (quiet zeros8)
def L1 : List Ln := (putL L0 112 4).2
def L2 : List Ln := (putL L1 192 306).2
def L3 : List Ln := flushK (storeK L2 193 [5, 6] 2) 24 1

theorem ex_assigned : assignedL (loadL L0) 64 0 = (-1, 0) := by decide +kernel
theorem ex_scanC : scanC (loadL L0) 64 = [-1, -1, -1] := by decide +kernel
theorem ex_scanB : scanB (loadL L0) 64 = [] := by decide +kernel
theorem ex_of : ofL (loadL L1) 64 25 = (24, 0) := by decide +kernel
theorem ex_block : blockL (loadL L1) 64 24 = ((24, 3, 0, 0), 0) := by decide +kernel
theorem ex_node : followL (loadL L2) 64 8216 = ((24, 3, 2, 2), 0) := by decide +kernel
theorem ex_stale : followL (loadL L2) 64 4120 = (bz, 70) := by decide +kernel
theorem ex_arg : followL (loadL L2) 64 8217 = (bz, 1) := by decide +kernel
theorem ex_state : stateI L2 24 = 0 := by decide +kernel
theorem ex_words : (wordsL (loadL L3) 64 8216).2 = 0 ∧ (wordsL (loadL L3) 64 8216).1.length = 63 ∧ (wordsL (loadL L3) 64 8216).1.take 3 = [5, 6, 0] := by decide +kernel
theorem ex_fill : fillL (loadL L2) 64 L2 8216 [5, 6] = (0, L3) := by
  unfold fillL
  rw [ex_node]
  rw [if_neg (by decide), if_neg (by decide), if_neg (by decide), if_neg]
  · rfl
  · rintro ⟨_, j, hj, h2⟩
    have : j = 0 := by simpa using hj
    subst this
    rw [show (24 : Int) + ((0 : Nat) : Int) = 24 by omega] at h2
    rw [ex_state] at h2
    exact absurd h2 (by decide)
theorem ex_fit : fitL 8 = (1, 0) ∧ fitL 128 = (0, 2) ∧ fitL (-1) = (0, 1) ∧ roomP 4 = 127 ∧ roomP 5 = 0 ∧ startsL 64 1 3 = [32, 40] := by decide
theorem InL64 : InL 64 := ⟨by decide, by decide⟩

end Go.Proofs.YthepaakejpbppaaGreatDoor

/- class: the examples hold. -/
namespace Go.Proofs.YthepaakejpbppaaGreatDoor
open Go.E

theorem fresh_step {w0 w w' : World} {F F' : List Nat} (t : Tr [] w0 w) (hF : ∀ b ∈ F, w0.heap.size ≤ b) (s : Step w w' F F') : Tr [] w0 w' ∧ ∀ b ∈ F', w0.heap.size ≤ b :=
  ⟨t.trans s.tr (fun _ h => h) (fun b hb hlt => by have := hF b hb; omega), fun b hb => (s.sub b hb).elim (hF b) (fun h => Nat.le_trans t.size h)⟩

theorem New_mem (w : World) (hg : Gl w) (n : Nat) (h1 : 1 ≤ n) (hn : n ≤ 4096) :
    Calls cx.P 43 #[.int .i64 (n : Nat)] w (Ret fun v w' => Tr [] w w' ∧ ∃ p F, v = .pointer (some ⟨p, 0, none⟩) ∧ IMem w' p (List.replicate n (quiet zeros8)) 0 0 F ∧ ∀ b ∈ F, w.heap.size ≤ b) := by
  refine (New_calls w hg n h1 hn).mono fun e w' ⟨v, he, t, p, bl, bm, F, hv, hF, hm, hge⟩ => ⟨v, he, t, p, F, hv, ⟨bl, bm, _, _, 0, hm, by rw [List.map_replicate], Nat.le_refl _, fun l hl => ?_, hF⟩, hge⟩
  rw [List.eq_of_mem_replicate hl]
  exact Nat.le_refl _

theorem not_step {w w' : World} {F F' : List Nat} {b : Nat} (s : Step w w' F F') (h : b ∉ F) (hb : b < w.heap.size) : b ∉ F' := fun hm => (s.sub b hm).elim h (fun hh => by omega)

theorem under_view : cx.P.underlying 30 = some (.pointer 133) := by kernel_rfl

set_option maxHeartbeats 4000000 in
set_option maxRecDepth 100000 in
theorem sanity_calls (w : World) (hg : Gl w) : Calls cx.P 9 #[] w (Ret fun v w' => v = .bool true ∧ Tr [] w w') := by
  refine calls_body cx_ok (args := []) Tryz.func9 rfl 241 rfl rfl [.tmp 0] rfl ?_
  refine call (Plan_calls 64 InL64 w) ?_
  rintro _ w1 ⟨rfl, t1⟩
  intro b1 w2 n2
  have e2 := n2.num; have z2 := n2.size; have z1 := t1.size
  refine ⟨_, _, n2.blk, rfl, by show 0 + 8 ≤ 8; decide, rfl, fun w3 u3 => ?_⟩
  have z3 := u3.size
  have BL : Blk w3 b1 (lcs 64) 28 := u3.blk
  have t3 : Tr [] w w3 := u3.ext (t1.ext n2.tr) (by omega)
  refine call (New_mem w3 (hg.ext t3) 64 (by decide) (by decide)) ?_
  rintro _ w4 ⟨t34, m, F0, rfl, hm0, hF0⟩
  have z34 := t34.size
  have hm0 : IMem w4 m L0 0 0 F0 := hm0
  have BL4 := BL.ext t34
  refine ⟨.bool false, w4, ptr_nil rfl under_mem _ _ _ w4, ?_⟩
  refine call (Fit_calls 8 w4) ?_
  rintro _ _ ⟨rfl, rfl⟩
  refine call (Fit_calls 128 w4) ?_
  rintro _ _ ⟨rfl, rfl⟩
  refine call (Fit_calls (-1) w4) ?_
  rintro _ _ ⟨rfl, rfl⟩
  obtain ⟨x1, x2, x3, x4, x5, x6⟩ := ex_fit
  rw [x1, x2, x3]
  refine ⟨fun _ => ⟨fun _ => ⟨fun _ => ⟨fun _ => ?_, fun h => absurd rfl h⟩, fun h => absurd rfl h⟩, fun h => absurd rfl h⟩, fun h => absurd rfl h⟩
  refine call (Room_calls 4 w4) ?_
  rintro _ _ ⟨rfl, rfl⟩
  rw [x4]
  refine ⟨fun _ => ?_, fun h => absurd rfl h⟩
  refine call (Room_calls 5 w4) ?_
  rintro _ _ ⟨rfl, rfl⟩
  rw [x5]
  refine ⟨fun _ => ?_, fun h => absurd rfl h⟩
  -- starts
  refine ⟨_, BL4.all, rfl, ?_⟩
  refine call (Starts_calls w4 InL64 1 3 ⟨by decide, by decide⟩) ?_
  rintro sv w5 ⟨t45, hr5, hf5⟩
  rw [x6] at hr5
  refine ⟨_, rfl, fun b6 w6 n6 => ?_⟩
  refine call (SameI_calls w6 [32, 40] [32, 40] (by decide) sv _ (Row.sli (Row.tr hr5 n6.tr (by simp))) ⟨_, _, rfl, Nat.le_refl _, .inr ⟨b6, 0, rfl, n6.blk.all⟩⟩) ?_
  rintro _ w7 ⟨rfl, t67⟩
  rw [decide_eq_true rfl]
  have t47 := (t45.ext n6.tr).ext t67
  have z47 := t47.size
  have hg4 := hg.ext (t3.ext t34)
  -- assigned
  refine ⟨_, (BL4.ext t47).all, rfl, ?_⟩
  refine call (Assigned_calls (hm0.ext t47) (hg4.ext t47) InL64 0) ?_
  rintro _ w8 ⟨rfl, t78⟩
  rw [ex_assigned]
  have t48 := t47.ext t78
  -- scan
  refine ⟨_, (BL4.ext t48).all, rfl, ?_⟩
  refine call (Scan_calls (hm0.ext t48) (hg4.ext t48) InL64) ?_
  rintro pv w9 ⟨t89, s1, s2, s3, rfl, hs1, hs2, hs3⟩
  rw [ex_scanC] at hs1
  rw [ex_scanB] at hs2
  have z89 := t89.size
  have t49 := t48.ext t89
  obtain ⟨a1, c1, hs1e⟩ := hs1.slice
  obtain ⟨a2, c2, hs2e⟩ := hs2.slice
  obtain ⟨a3, c3, hs3e⟩ := hs3.slice
  subst hs1e; subst hs2e; subst hs3e
  intro b14 w10 n10
  have e10 := n10.num; have z10 := n10.size
  refine ⟨_, _, n10.blk, rfl, by show 0 + 3 ≤ 3; decide, rfl, fun w11 u11 => ?_⟩
  have z11 := u11.size
  have BP : Blk w11 b14 [.slice a1 3 c1, .slice a2 0 c2, .slice a3 (scanX (loadL L0) 64).length c3] 59 := u11.blk
  have t4_11 : Tr [] w4 w11 := u11.ext (t49.ext n10.tr) (by have := t49.size; omega)
  have z4_11 := t4_11.size
  have zl4 := hm0.lt
  -- the chunk word
  have BL11 := BL4.ext t4_11
  have hb1F : b1 ∉ F0 := fun hm => by have := hF0 b1 hm; omega
  refine ⟨_, BL11.cell rfl, 112, by decide, ?_⟩
  refine call (Store_gen (hm0.ext t4_11) (hg4.ext t4_11) (by decide) 112 4 ⟨by decide, by decide⟩) ?_
  rintro _ w12 ⟨rfl, F1, hm1, st1⟩
  have hm1 : IMem w12 m L1 0 1 F1 := hm1
  have hg12 : Gl w12 := (hm0.ext t4_11).gl (hg4.ext t4_11) st1
  have BL12 := BL11.tr st1.tr hb1F
  have hb14F : b14 ∉ F0 := fun hm => by have := zl4 b14 hm; have := t49.size; omega
  have BP12 := BP.tr st1.tr hb14F
  have hb1F1 := not_step st1 hb1F (by have := BL11.lt; exact this)
  have hb14F1 := not_step st1 hb14F (by have := BP.lt; exact this)
  have hsF0 : ∀ c, (w8.heap.size ≤ c ∧ c < w9.heap.size) → c ∉ F0 := fun c hc hm => by have := zl4 c hm; have := t48.size; omega
  have h911 : Tr [] w9 w11 := u11.ext n10.tr (by omega)
  have hs1' : SliD w12 (.slice a1 3 c1) 3 (i64s [-1, -1, -1]) (fun b => w8.heap.size ≤ b ∧ b < w9.heap.size) := (hs1.ext h911).tr st1.tr (fun c hc hd => hsF0 c hd hc)
  have hsF1 : ∀ c, (w8.heap.size ≤ c ∧ c < w9.heap.size) → c ∉ F1 := fun c hc => not_step st1 (hsF0 c hc) (by omega)
  -- of
  refine ⟨_, BL12.all, rfl, ?_⟩
  refine call (Of_calls hm1 hg12 InL64 25 ⟨by decide, by decide⟩) ?_
  rintro _ w13 ⟨rfl, t13⟩
  rw [ex_of]
  refine ⟨_, (BL12.ext t13).all, rfl, ?_⟩
  refine call (Block_calls (hm1.ext t13) (hg12.ext t13) InL64 24 ⟨by decide, by decide⟩) ?_
  rintro _ w14 ⟨rfl, t14⟩
  rw [ex_block]
  have t12_14 := t13.ext t14
  intro b17 w15 n15
  have e15 := n15.num; have z15 := n15.size
  refine ⟨_, _, n15.blk, rfl, by show 0 + 4 ≤ 4; decide, rfl, fun w16 u16 => ?_⟩
  have B17 : Blk w16 b17 (bcells (24, 3, 0, 0)) 44 := u16.blk
  have z16 := u16.size
  have t12_16 : Tr [] w12 w16 := u16.ext (t12_14.ext n15.tr) (by have := t12_14.size; omega)
  have zl12 := hm1.lt
  have hb17F1 : b17 ∉ F1 := fun hm => by have := zl12 b17 hm; have := t12_14.size; omega
  -- the header
  refine call (Store_gen (hm1.ext t12_16) (hg12.ext t12_16) (by decide) 192 306 ⟨by decide, by decide⟩) ?_
  rintro _ w17 ⟨rfl, F2, hm2, st2⟩
  have hm2 : IMem w17 m L2 0 2 F2 := hm2
  have hg17 : Gl w17 := (hm1.ext t12_16).gl (hg12.ext t12_16) st2
  have BL17 := (BL12.ext t12_16).tr st2.tr hb1F1
  have BP17 := (BP12.ext t12_16).tr st2.tr hb14F1
  have B17' := B17.tr st2.tr hb17F1
  have hs1'' := (hs1'.ext t12_16).tr st2.tr (fun c hc hd => hsF1 c hd hc)
  have hb1F2 := not_step st2 hb1F1 (by have := (BL12.ext t12_16).lt; exact this)
  have hb14F2 := not_step st2 hb14F1 (by have := (BP12.ext t12_16).lt; exact this)
  have hb17F2 := not_step st2 hb17F1 (by have := B17.lt; exact this)
  have z12 := st1.tr.size
  have hsF2 : ∀ c, (w8.heap.size ≤ c ∧ c < w9.heap.size) → c ∉ F2 := fun c hc => not_step st2 (hsF1 c hc) (by have := t12_16.size; omega)
  -- the view
  refine call (Over_calls w17 m) ?_
  rintro _ w18 ⟨t18, v, rfl, hv, hvge⟩
  refine ⟨.bool false, w18, ptr_nil rfl under_view _ _ _ w18, ?_⟩
  have hm18 := hm2.ext t18
  have hg18 := hg17.ext t18
  have hld := loadL_ok hm18.ok
  have ld18 : IsLoad w18 70 v (loadL L2) := VLoad_calls hv.rd (by decide) (hm18.load hg18)
  have BL18 := BL17.ext t18
  refine ⟨_, BL18.all, rfl, ?_⟩
  refine call (Follow_calls hg18 hld InL64 ld18 8216 ⟨by decide, by decide⟩) ?_
  rintro _ w19 ⟨rfl, t19⟩
  rw [ex_node]
  intro b21 w20 n20
  have e20 := n20.num; have z20 := n20.size
  refine ⟨_, _, n20.blk, rfl, by show 0 + 4 ≤ 4; decide, rfl, fun w21 u21 => ?_⟩
  have z21 := u21.size
  have B21 : Blk w21 b21 (bcells (24, 3, 2, 2)) 44 := u21.blk
  have t18_21 : Tr [] w18 w21 := u21.ext (t19.ext n20.tr) (by have := t19.size; omega)
  refine ⟨_, (BL18.ext t18_21).all, rfl, ?_⟩
  refine call (Follow_calls (hg18.ext t18_21) hld InL64 (ld18.ext t18_21) 4120 ⟨by decide, by decide⟩) ?_
  rintro _ w22 ⟨rfl, t22⟩
  rw [ex_stale]
  intro b23 w23 n23
  have e23 := n23.num; have z23 := n23.size
  refine ⟨_, _, n23.blk, rfl, by show 0 + 4 ≤ 4; decide, rfl, fun w24 u24 => ?_⟩
  have z24 := u24.size
  have t21_24 : Tr [] w21 w24 := u24.ext (t22.ext n23.tr) (by have := t22.size; omega)
  have t18_24 := t18_21.ext t21_24
  refine ⟨_, (BL18.ext t18_24).all, rfl, ?_⟩
  refine call (Follow_calls (hg18.ext t18_24) hld InL64 (ld18.ext t18_24) 8217 ⟨by decide, by decide⟩) ?_
  rintro _ w25 ⟨rfl, t25⟩
  rw [ex_arg]
  intro b25 w26 n26
  have e26 := n26.num; have z26 := n26.size
  refine ⟨_, _, n26.blk, rfl, by show 0 + 4 ≤ 4; decide, rfl, fun w27 u27 => ?_⟩
  have z27 := u27.size
  have t24_27 : Tr [] w24 w27 := u27.ext (t25.ext n26.tr) (by have := t25.size; omega)
  have t21_27 := t21_24.ext t24_27
  have t18_27 := t18_24.ext t24_27
  have BP27 := (BP17.ext t18).ext t18_27
  -- the pictures
  refine ⟨fun _ => ⟨fun _ => ?_, fun h => absurd rfl h⟩, fun h => absurd rfl h⟩
  refine ⟨_, BP27.cell rfl, _, rfl, fun b28 w28 n28 => ?_⟩
  refine call (SameI_calls w28 [-1, -1, -1] [-1, -1, -1] (by decide) (.slice a1 3 c1) _ (((hs1''.ext t18).ext t18_27).ext n28.tr).sli ⟨_, _, rfl, Nat.le_refl _, .inr ⟨b28, 0, rfl, n28.blk.all⟩⟩) ?_
  rintro _ w29 ⟨rfl, t29⟩
  rw [decide_eq_true rfl]
  have t27_29 := n28.tr.ext t29
  refine ⟨_, (BP27.ext t27_29).cell rfl, fun _ => ?_, fun h => absurd rfl h⟩
  -- the places
  have t16_18 := t18
  have B17_29 := ((B17'.ext t18).ext t18_27).ext t27_29
  refine ⟨fun _ => ⟨fun _ => ?_, fun h => absurd rfl h⟩, fun h => absurd rfl h⟩
  refine ⟨_, B17_29.all, rfl, bcells (24, 3, 0, 0), rfl, ?_⟩
  refine eql_flat (d := 4) (by decide) flat_block wide_block guard_block _ _ (bcells_eq _) (bcells_eq _) rfl rfl w29 ?_
  rw [decide_eq_true rfl]
  refine ⟨fun _ => ?_, fun h => absurd rfl h⟩
  -- fill
  have t18_29 := t18_27.ext t27_29
  refine ⟨_, (BL18.ext t18_29).all, rfl, _, rfl, fun b30 w30 n30 => ?_⟩
  have e30 := n30.num; have z30 := n30.size
  have t18_30 := t18_29.ext n30.tr
  have hm30 := hm18.ext t18_30
  have hg30 := hg18.ext t18_30
  have zl30 := hm18.lt
  have zt30 := t18_29.size
  have fl := Fill_calls (D := fun c => c = b30) hm30 hg30 (hv.rd.ext t18_30) (by decide) (by simp) InL64 (by decide) 8216 ⟨by decide, by decide⟩ (ws := [5, 6]) (s := .slice (some ⟨b30, 0, none⟩) 2 2)
    ⟨_, _, rfl, Nat.le_refl _, .inr ⟨b30, 0, rfl, rfl, n30.blk.all⟩⟩ (fun c hc hm => by have := zl30 c hm; omega) (by decide)
  rw [show viewL [] (loadL L2) = loadL L2 from rfl, ex_fill] at fl
  refine call fl ?_
  rintro _ w31 ⟨rfl, F3, hm31, st31⟩
  have hm31 : IMem w31 m L3 0 402 F3 := hm31
  have hg31 : Gl w31 := hm30.gl hg30 st31
  refine ⟨fun _ => ?_, fun h => absurd rfl h⟩
  have BL31 := (BL18.ext t18_30).tr st31.tr hb1F2
  have zl17 := hm2.lt
  have hvF : v ∉ F2 := fun hm => by have := zl17 v hm; omega
  have hv31 : VMem w31 133 v m [] [v] := (hv.ext t18_30).tr st31.tr (fun c hc hm => by simp at hm; exact hvF (hm ▸ hc))
  have ld31 : IsLoad w31 70 v (loadL L3) := VLoad_calls hv31.rd (by decide) (hm31.load hg31)
  refine ⟨_, BL31.all, rfl, ?_⟩
  refine call (Words_calls hg31 (loadL_ok hm31.ok) InL64 ld31 8216 ⟨by decide, by decide⟩) ?_
  rintro _ w32 ⟨t32, s30, rfl, ho⟩
  obtain ⟨y1, y2, y3⟩ := ex_words
  rw [y1]
  obtain ⟨xs, hxs⟩ : ∃ xs, xs = (wordsL (loadL L3) 64 8216).1 := ⟨_, rfl⟩
  unfold OwnS at ho
  rw [← hxs] at ho y2 y3
  rw [y2] at ho
  obtain ⟨a30, c30, hs30⟩ := ho.slice
  subst hs30
  obtain ⟨g30, o30, hg30', _, hc30⟩ := ho.sli.head (by decide)
  subst hg30'
  have q0 : xs[0]? = some 5 := by have := congrArg (fun l => l[0]?) y3; simpa [List.getElem?_take] using this
  have q1 : xs[1]? = some 6 := by have := congrArg (fun l => l[1]?) y3; simpa [List.getElem?_take] using this
  have q2 : xs[2]? = some 0 := by have := congrArg (fun l => l[2]?) y3; simpa [List.getElem?_take] using this
  have hb21 : b21 ∉ F2 := fun hm => by have := zl17 b21 hm; have := t18.size; have := t19.size; omega
  have B21_32 := (((B21.ext t21_27).ext t27_29).ext n30.tr).tr st31.tr hb21 |>.ext t32
  refine ⟨_, B21_32.all, rfl, bcells (24, 3, 2, 2), rfl, ?_⟩
  refine eql_flat (d := 4) (by decide) flat_block wide_block guard_block _ _ (bcells_eq _) (bcells_eq _) rfl rfl w32 ?_
  rw [decide_eq_true rfl]
  refine ⟨fun _ => ⟨fun _ => ⟨fun _ => ?_, fun h => absurd rfl h⟩, fun h => absurd rfl h⟩, fun h => absurd rfl h⟩
  have BL32 := BL31.ext t32
  refine draw_rule cx_ok [] (Plan.takes [0, 1, 2, 3, 4, 5, 6, 7, 8, 9, 10, 11, 12, 13, 14, 15, 16, 17, 18, 19, 20, 21, 22, 23, 24, 25, 26, 27, 28, 29, 30, 31, 32, 33, 34, 35, 36, 37, 38, 39, 40, 41, 42, 43, 44, 45, 46] (.one true 47 (.one true 48 (Plan.takes [49, 50, 51] .done)))) (by kernel_rfl) ?_
  intro w33 d
  refine ⟨fun _ => ⟨fun _ => ?_, fun h => absurd rfl h⟩, fun h => absurd rfl h⟩
  refine ⟨0, rfl, by decide, _, fun w' t => t.cell (hc30 0 _ (i64s_get q0)) (by simp), fun _ => ?_, fun h => absurd rfl h⟩
  refine ⟨1, rfl, by decide, _, fun w' t => t.cell (hc30 1 _ (i64s_get q1)) (by simp), fun _ => ?_, fun h => absurd rfl h⟩
  refine ⟨2, rfl, by decide, _, fun w' t => t.cell (hc30 2 _ (i64s_get q2)) (by simp), fun _ => ?_, fun h => absurd rfl h⟩
  refine ⟨_, fun w' t => BL32.all.tr t (by simp), rfl, _, fun w' t => BL32.all.tr t (by simp), rfl, ?_⟩
  refine ⟨?_, trivial⟩
  have hm33 := (hm31.ext t32).ext d.tr
  have hg33 := (hg31.ext t32).ext d.tr
  refine call (Scan_calls hm33 hg33 InL64) ?_
  rintro _ w34 ⟨t34', p1, p2, p3, rfl, ps1, ps2, ps3⟩
  refine ⟨d.tr.ext t34', ?_⟩
  refine ⟨?_, trivial⟩
  refine call (CheckPic_calls (hg33.ext t34') (loadL_ok hm31.ok) InL64 ps1.sli ps2.sli ps3.sli) ?_
  rintro _ w35 ⟨rfl, t35⟩
  refine ⟨(d.tr.ext t34').ext t35, fun _ => ⟨rfl, ?_⟩, fun h => absurd rfl h⟩
  have s0 := fresh_step (t3.ext t34 |>.ext t4_11) (fun c hc => by have := hF0 c hc; have := t3.size; omega) st1
  have s1 := fresh_step (s0.1.ext t12_16) s0.2 st2
  have s2 := fresh_step ((s1.1.ext t18).ext t18_30) s1.2 st31
  exact (((s2.1.ext t32).ext d.tr).ext t34').ext t35

end Go.Proofs.YthepaakejpbppaaGreatDoor

/- class: a script is played. -/
namespace Go.Proofs.YthepaakejpbppaaGreatDoor
open Go.E

structure OpV where
  k : Int
  a : Int
  b : Int
  xs : List Int
  cv : Value
def OpV.cells (o : OpV) : List Value := ocells o.k o.a o.b o.xs o.cv
structure OpV.Ok (o : OpV) : Prop where
  len : o.xs.length = 8
  ia : inI64 o.a
  one : E.one o.cv = true
def ocs (os : List OpV) : List Value := os.flatMap OpV.cells

def opsL (L : List Ln) (os : List OpV) : Nat → List Ln
  | 0 => L
  | i + 1 => match os[i]? with
    | some o => opL (opsL L os i) o.k o.a o.b o.xs
    | none => opsL L os i
theorem opsL_at {L : List Ln} {os : List OpV} {i : Nat} {o : OpV} (h : os[i]? = some o) : opsL L os (i + 1) = opL (opsL L os i) o.k o.a o.b o.xs := by
  conv => lhs; unfold opsL
  rw [h]
theorem opsL_len (L : List Ln) (os : List OpV) : ∀ i, (opsL L os i).length = L.length
  | 0 => rfl
  | i + 1 => by
    unfold opsL
    split
    · rw [opL_len, opsL_len L os i]
    · exact opsL_len L os i
theorem opsL_sd {L : List Ln} (h : Sd L) (os : List OpV) : ∀ i, Sd (opsL L os i)
  | 0 => h
  | i + 1 => by
    unfold opsL
    split
    · exact (opsL_sd h os i).op _ _ _ _
    · exact opsL_sd h os i
theorem opL_big {L : List Ln} {k a b : Int} {xs : List Int} (h : 8 ≤ k) : opL L k a b xs = L := by
  unfold opL
  rw [if_neg (by omega), if_neg (by omega), if_neg (by omega), if_neg (by omega), if_neg (by omega), if_neg (by omega), if_neg (by omega), if_neg (by omega)]

def setsE (n : Nat) (es : List (Int × Int)) : Nat → List (Int × Int)
  | 0 => []
  | i + 1 => match es[i]? with
    | some e => setE n (setsE n es i) e.1 e.2
    | none => setsE n es i
theorem setsE_at {n : Nat} {es : List (Int × Int)} {i : Nat} {e : Int × Int} (h : es[i]? = some e) : setsE n es (i + 1) = setE n (setsE n es i) e.1 e.2 := by
  conv => lhs; unfold setsE
  rw [h]
theorem setE_len (n : Nat) (E : List (Int × Int)) (a v : Int) : (setE n E a v).length ≤ E.length + 1 := by unfold setE; split <;> simp
theorem setsE_len (n : Nat) (es : List (Int × Int)) : ∀ i, (setsE n es i).length ≤ i
  | 0 => by simp [setsE]
  | i + 1 => by
    unfold setsE
    have := setsE_len n es i
    split
    · rename_i e _
      have := setE_len n (setsE n es i) e.1 e.2
      omega
    · omega
theorem setsE_all (n : Nat) (es : List (Int × Int)) : ∀ i, ∀ e ∈ setsE n es i, 0 ≤ e.2 ∧ e.2 ≤ 1099511627775
  | 0 => by simp [setsE]
  | i + 1 => by
    unfold setsE
    split
    · exact setE_all (setsE_all n es i) _ _
    · exact setsE_all n es i

theorem cell_lt {w : World} {a : Addr} {v : Value} (h : w.cell? a = some v) : a.block < w.heap.size := by
  unfold World.cell? at h
  cases ho : w.heap[a.block]? with
  | none => simp [ho] at h
  | some o => exact (Array.getElem?_eq_some_iff.1 ho).1

def Dj (A B : List Nat) : Prop := ∀ b ∈ A, b ∉ B
theorem Dj.symm {A B : List Nat} (h : Dj A B) : Dj B A := fun b hb ha => h b ha hb
theorem Dj.step {A A' B : List Nat} {w w' : World} (h : Dj A B) (s : Step w w' A A') (hB : ∀ b ∈ B, b < w.heap.size) : Dj A' B := fun b hb hm => (s.sub b hb).elim (fun h1 => h b h1 hm) (fun h1 => by have := hB b hm; omega)

def hcells (n m v s : Nat) : List Value := lcs n ++ [.pointer (some ⟨m, 0, none⟩), .pointer (some ⟨v, 0, none⟩), .pointer (some ⟨s, 0, none⟩)]

/-- What a script comes to. -/
structure Heap (w w' : World) (n m v s : Nat) (L : List Ln) (E : List (Int × Int)) (z sm : Nat) (span span' : Nat) (F1 FS FV FSV : List Nat) : Prop where
  tr : Tr [] w w'
  mem : IMem w' m L span 100 F1
  spec : RMem w' sm L span' 100 FS
  view : VMem w' 133 v m E FV
  sview : VMem w' 42 s sm E FSV
  d1 : Dj F1 FS
  d2 : Dj F1 FV
  d3 : Dj F1 FSV
  d4 : Dj FS FV
  d5 : Dj FS FSV
  d6 : Dj FV FSV
  ge : ∀ b, b ∈ F1 ∨ b ∈ FS ∨ b ∈ FV ∨ b ∈ FSV → w.heap.size ≤ b

set_option maxHeartbeats 8000000 in
set_option maxRecDepth 100000 in
theorem played_calls (w : World) (hg : Gl w) (ln : Nat) (hln : ln < 256) (os : List OpV) (hos : ∀ o ∈ os, o.Ok) (es : List (Int × Int)) (hes : ∀ e ∈ es, inI64 e.1) {sO sE : Value} (hO : SliZ w sO os.length (ocs os)) (hE : SliZ w sE es.length (ecells es)) :
    Calls cx.P 10 #[.agg #[.int .u8 (ln : Nat), sO, sE]] w (Ret fun x w' =>
      (¬ (os.length ≤ 80 ∧ es.length ≤ 40) ∧ Tr [] w w' ∧ ∃ cs : List Value, x = .tuple #[.agg cs.toArray, .bool false] ∧ cs.length = 11 ∧ cs.all E.one = true) ∨
      (os.length ≤ 80 ∧ es.length ≤ 40 ∧ ∃ m v s z sm span span' F1 FS FV FSV, x = .tuple #[.agg (hcells (64 + ln % 40) m v s).toArray, .bool true] ∧
        Heap w w' (64 + ln % 40) m v s (opsL (List.replicate (64 + ln % 40) (quiet zeros8)) os os.length) (setsE (64 + ln % 40) es es.length) z sm span span' F1 FS FV FSV)) := by
  obtain ⟨n, hn⟩ : ∃ n, n = 64 + ln % 40 := ⟨_, rfl⟩
  have hnL : InL n := by unfold InL; omega
  rw [← hn]
  obtain ⟨aO, cO, hsO⟩ := hO.slice
  obtain ⟨aE, cE, hsE⟩ := hE.slice
  subst hsO; subst hsE
  refine calls_body cx_ok (args := [.agg #[.int .u8 (ln : Nat), .slice aO os.length cO, .slice aE es.length cE]]) Tryz.func10 rfl 170 rfl rfl [.cell 2 33, .tmp 3] rfl ?_
  intro b1 w1 n1 b2 w2 n2
  have e1 := n1.num; have e2 := n2.num; have z1 := n1.size; have z2 := n2.size
  have B1 : Blk w2 b1 [.int .u8 (ln : Nat), .slice aO os.length cO, .slice aE es.length cE] 25 := (show Blk w1 b1 _ _ from n1.blk).ext n2.tr
  obtain ⟨z11, hz11⟩ : ∃ z : List Value, z = [.int .i64 0, .int .i64 0, .int .i64 0, .int .i64 0, .int .i64 0, .int .i64 0, .int .i64 0, .int .i64 0, .pointer none, .pointer none, .pointer none] := ⟨_, rfl⟩
  have B2 : Blk w2 b2 z11 33 := by rw [hz11]; exact n2.blk
  have t2 := n1.tr.ext n2.tr
  by_cases hbig : ¬ (os.length ≤ 80 ∧ es.length ≤ 40)
  · have fin : StN w2 b2 0 11 z11 fun w' => ∃ vs, Cells w' b2 0 vs ∧ vs.length = 11 ∧ ((¬ (os.length ≤ 80 ∧ es.length ≤ 40) ∧ Tr [] w w' ∧ ∃ cs : List Value, pack [.agg vs.toArray, .bool false] = .tuple #[.agg cs.toArray, .bool false] ∧ cs.length = 11 ∧ cs.all E.one = true) ∨
        (os.length ≤ 80 ∧ es.length ≤ 40 ∧ ∃ m v s z sm span span' F1 FS FV FSV, pack [.agg vs.toArray, .bool false] = .tuple #[.agg (hcells n m v s).toArray, .bool true] ∧
        Heap w w' n m v s (opsL (List.replicate n (quiet zeros8)) os os.length) (setsE n es es.length) z sm span span' F1 FS FV FSV)) := by
      refine ⟨_, _, B2, by rw [hz11]; rfl, by rw [hz11]; show 0 + 11 ≤ 11; decide, by rw [hz11]; rfl, fun w' u => ⟨_, u.blk.all, by rw [hz11]; rfl, .inl ⟨hbig, u.ext t2 (by omega), _, rfl, by rw [hz11]; rfl, by rw [hz11]; rfl⟩⟩⟩
    rw [hz11] at fin
    refine ⟨_, B1.cell rfl, fun h80 => ⟨_, rfl, fin⟩, fun h80 => ?_⟩
    refine ⟨_, B1.cell rfl, fun h40 => ⟨_, rfl, fin⟩, fun h40 => absurd (show os.length ≤ 80 ∧ es.length ≤ 40 by omega) hbig⟩
  have hsm : os.length ≤ 80 ∧ es.length ≤ 40 := Classical.not_not.1 hbig
  refine ⟨_, B1.cell rfl, fun h80 => absurd h80 (by omega), fun _ => ⟨_, B1.cell rfl, fun h40 => absurd h40 (by omega), fun _ => ?_⟩⟩
  refine ⟨_, B1.cell rfl, (ln : Int), by rw [w64 (by omega)], ((ln % 40 : Nat) : Int), by decide, by rw [IntWalk.rem_in _ _ (by omega)]; omega, ((n : Nat) : Int), by rw [w64 (by omega)]; omega, ?_⟩
  refine call (Plan_calls n hnL w2) ?_
  rintro _ w3 ⟨rfl, t3⟩
  intro b5 w4 n4
  have e4 := n4.num; have z4 := n4.size; have z3 := t3.size
  refine ⟨_, _, n4.blk, rfl, by show 0 + 8 ≤ 8; decide, rfl, fun w5 u5 => ?_⟩
  have z5 := u5.size
  have B5 : Blk w5 b5 (lcs n) 28 := u5.blk
  have t25 : Tr [] w2 w5 := u5.ext (t3.ext n4.tr) (by omega)
  have hnn : 64 ≤ n ∧ n ≤ 103 := hnL
  refine call (New_mem w5 (hg.ext (t2.ext t25)) n (by omega) (by omega)) ?_
  rintro _ w6 ⟨t56, m, F0, rfl, hm0, hF0⟩
  refine call (New04_calls w6 ((hg.ext (t2.ext t25)).ext t56).size n (by omega)) ?_
  rintro _ w7 ⟨t67, sm, FS0, rfl, hs0, hFS0⟩
  refine ⟨.bool false, w7, ptr_nil rfl under_mem _ _ _ w7, ?_⟩
  have z56 := t56.size; have z67 := t67.size
  have zl6 := hm0.lt
  have t57 := t56.ext t67
  have B5_7 := B5.ext t57
  have t27 := t25.ext t57
  have hgl : ∀ W, Tr [] w W → Gl W := fun W t => hg.ext t
  have t07 := t2.ext t27
  have hd0 : Dj F0 FS0 := fun c hc hm => by have := zl6 c hc; have := hFS0 c hm; omega
  have base : w2.heap.size ≤ w5.heap.size := t25.size
  obtain ⟨LL, hLL⟩ : ∃ LL, LL = List.replicate n (quiet zeros8) := ⟨_, rfl⟩
  rw [← hLL] at hm0 hs0 ⊢
  have hsd0 : Sd LL := by rw [hLL]; exact LOk.rep n
  refine loop_rule cx_ok (fun (i : Nat) W => i ≤ os.length ∧ Tr [] w5 W ∧ ∃ span span' F1 FS, IMem W m (opsL LL os i) span i F1 ∧ RMem W sm (opsL LL os i) span' i FS ∧ Dj F1 FS ∧ (∀ c ∈ F1, w5.heap.size ≤ c) ∧ ∀ c ∈ FS, w5.heap.size ≤ c)
    (fun i : Nat => [(1, .pointer (some ⟨b1, 0, none⟩)), (2, .pointer (some ⟨b2, 0, none⟩)), (5, .pointer (some ⟨b5, 0, none⟩)), (7, .pointer (some ⟨m, 0, none⟩)), (8, .pointer (some ⟨sm, 0, none⟩)), (9, .int .i64 (i : Nat))]) (fun i => os.length - i) 0
    ⟨rfl, rfl, rfl, rfl, rfl, rfl, trivial⟩ ⟨by omega, t57, 0, 0, F0, FS0, hm0.ext t67, hs0, hd0, hF0, fun c hc => by have := hFS0 c hc; omega⟩ ?_
  rintro i W ⟨hi, tW, span, span', F1, FS, hm1, hs1, hd, hF1, hFS⟩
  have B1W := (B1.ext t25).ext tW
  have zW := tW.size
  refine ⟨_, B1W.cell rfl, fun hlt => ?_, fun hge => ?_⟩
  · have hil : i < os.length := by omega
    obtain ⟨o, ho⟩ : ∃ o, o = os[i] := ⟨_, rfl⟩
    have hog : os[i]? = some o := by rw [ho]; exact List.getElem?_eq_getElem hil
    have hok := hos o (List.mem_of_getElem? hog)
    have hl12 : ∀ q ∈ os, (OpV.cells q).length = 12 := fun q hq => ocells_len (hos q hq).len _ _ _ _
    have ho12 := hl12 o (List.mem_of_getElem? hog)
    have hone := ocells_one o.k o.a o.b o.xs hok.one
    obtain ⟨g, oo, haO, _, hcs⟩ := (hO.ext (t2.ext (t25.ext tW))).head (by omega)
    have hcell : Cells W g (oo + i * 12) o.cells := fun j v hv => by
      have := hcs _ _ (fm_get hl12 hog hv)
      rw [Nat.add_assoc]; exact this
    rw [haO] at B1W
    rw [haO]
    refine ⟨_, B1W.cell rfl, i, rfl, hil, _, hcell, ho12, ?_⟩
    intro b10 W1 nn
    have en := nn.num; have zn := nn.size
    refine ⟨_, _, nn.blk, ho12, by show 0 + 12 ≤ 12; decide, hone, fun W2 u2 => ?_⟩
    have zu := u2.size
    have BO : Blk W2 b10 o.cells 95 := Upd.whole u2 rfl ho12
    have tW2 : Tr [] W W2 := u2.ext nn.tr (by omega)
    have t52 := tW.ext tW2
    have hm2 := hm1.ext tW2
    have hs2 := hs1.ext tW2
    have hL2 := opsL_sd hsd0 os i
    refine ⟨_, BO.cell rfl, fun hk8 => ?_, fun hk8 => ?_⟩
    · refine ⟨_, BO.all, ho12, ?_⟩
      refine call (Do04_calls hs2 hL2 (by omega) o.k o.a o.b o.xs o.cv hok.len hk8 hok.ia) ?_
      rintro _ W3 ⟨FS3, hs3, st3⟩
      have hb10 : b10 ∉ FS := fun hm => by have := hs1.lt b10 hm; omega
      have B3 := BO.tr st3.tr hb10
      have hm3 := hm2.tr st3.tr (fun c hc hm => hd c hm hc)
      have f3 := fresh_step t52 hFS st3
      have hg3 := hg.ext ((t2.ext t25).ext f3.1)
      have hd3 : Dj F1 FS3 := (hd.symm.step st3 hm2.lt).symm
      have fin' : ∀ (W4 : World) (sp : Nat) (L' : List Ln) (F4 : List Nat), IMem W4 m L' sp (i + 1) F4 → Step W3 W4 F1 F4 → opL (opsL LL os i) o.k o.a o.b o.xs = L' → (i + 1 ≤ os.length ∧ Tr [] w5 W4 ∧ ∃ span span' F1 FS, IMem W4 m (opsL LL os (i + 1)) span (i + 1) F1 ∧ RMem W4 sm (opsL LL os (i + 1)) span' (i + 1) FS ∧ Dj F1 FS ∧ (∀ c ∈ F1, w5.heap.size ≤ c) ∧ ∀ c ∈ FS, w5.heap.size ≤ c) := by
        intro W4 sp L' F4 hm4 st4 hL'
        have f4 := fresh_step f3.1 hF1 st4
        refine ⟨hil, f4.1, sp, spanL span' o.k o.a, F4, FS3, ?_, ?_, hd3.step st4 hs3.lt, f4.2, f3.2⟩
        · rw [opsL_at hog, hL']; exact hm4
        · rw [opsL_at hog]; exact hs3.tr st4.tr (fun c hc hm => hd3 c hc hm)
      refine ⟨_, B3.cell rfl, ?_⟩
      refine ⟨fun k0 => ?_, fun k0 => ?_⟩
      · refine ⟨_, B3.cell rfl, _, B3.cell rfl, ?_⟩
        refine call (Store_gen hm3 hg3 (by omega) o.a o.b hok.ia) ?_
        rintro _ W4 ⟨rfl, F4, hm4, st4⟩
        exact ⟨((i + 1 : Nat) : Int), by rw [w64 (by omega)]; omega, rfl, i + 1, ⟨rfl, rfl, rfl, rfl, rfl, rfl, trivial⟩, fin' W4 _ _ F4 hm4 st4 (by unfold opL; rw [if_pos k0]), by omega⟩
      refine ⟨fun k1 => ?_, fun k1 => ?_⟩
      · refine ⟨_, B3.cell rfl, _, B3.cell rfl, ?_⟩
        refine call (Publish_gen hm3 hg3 (by omega) o.a o.b hok.ia) ?_
        rintro _ W4 ⟨rfl, F4, hm4, st4⟩
        exact ⟨((i + 1 : Nat) : Int), by rw [w64 (by omega)]; omega, rfl, i + 1, ⟨rfl, rfl, rfl, rfl, rfl, rfl, trivial⟩, fin' W4 _ _ F4 hm4 st4 (by unfold opL; rw [if_neg k0, if_pos k1]), by omega⟩
      refine ⟨fun k2 => ?_, fun k2 => ?_⟩
      · refine ⟨_, B3.cell rfl, ?_⟩
        refine call (Span_gen hm3 o.a) ?_
        rintro _ W4 ⟨hm4, st4⟩
        exact ⟨((i + 1 : Nat) : Int), by rw [w64 (by omega)]; omega, rfl, i + 1, ⟨rfl, rfl, rfl, rfl, rfl, rfl, trivial⟩, fin' W4 _ _ F1 (hm4.mono (by omega)) st4 (by unfold opL; rw [if_neg k0, if_neg k1, if_pos k2]), by omega⟩
      refine ⟨fun k3 => ?_, fun k3 => ?_⟩
      · refine ⟨_, B3.cell rfl, ?_⟩
        refine call (Flush_gen hm3 (by omega) o.a) ?_
        rintro _ W4 ⟨rfl, F4, hm4, st4⟩
        exact ⟨((i + 1 : Nat) : Int), by rw [w64 (by omega)]; omega, rfl, i + 1, ⟨rfl, rfl, rfl, rfl, rfl, rfl, trivial⟩, fin' W4 _ _ F4 hm4 st4 (by unfold opL; rw [if_neg k0, if_neg k1, if_neg k2, if_pos k3]), by omega⟩
      refine ⟨fun k4 => ?_, fun k4 => ?_⟩
      · refine call (Fence_gen hm3 hg3 (by omega)) ?_
        rintro _ W4 ⟨F4, hm4, st4⟩
        exact ⟨((i + 1 : Nat) : Int), by rw [w64 (by omega)]; omega, rfl, i + 1, ⟨rfl, rfl, rfl, rfl, rfl, rfl, trivial⟩, fin' W4 _ _ F4 hm4 st4 (by unfold opL; rw [if_neg k0, if_neg k1, if_neg k2, if_neg k3, if_pos k4]), by omega⟩
      refine ⟨fun k5 => ?_, fun k5 => ?_⟩
      · refine ⟨_, B3.cell rfl, _, B3.cell rfl, ?_⟩
        refine call (Evict_gen hm3 hg3 (by omega) o.a o.b) ?_
        rintro _ W4 ⟨rfl, F4, hm4, st4⟩
        exact ⟨((i + 1 : Nat) : Int), by rw [w64 (by omega)]; omega, rfl, i + 1, ⟨rfl, rfl, rfl, rfl, rfl, rfl, trivial⟩, fin' W4 _ _ F4 hm4 st4 (by unfold opL; rw [if_neg k0, if_neg k1, if_neg k2, if_neg k3, if_neg k4, if_pos k5]), by omega⟩
      refine ⟨fun k6 => ?_, fun k6 => ?_⟩
      · refine ⟨_, B3.cell rfl, _, ocells_words B3.all, by rw [i64s_len]; exact hok.len, ?_⟩
        refine call (Heal_gen hm3 hg3 (by omega) o.a o.xs hok.len) ?_
        rintro _ W4 ⟨rfl, F4, hm4, st4⟩
        exact ⟨((i + 1 : Nat) : Int), by rw [w64 (by omega)]; omega, rfl, i + 1, ⟨rfl, rfl, rfl, rfl, rfl, rfl, trivial⟩, fin' W4 _ _ F4 hm4 st4 (by unfold opL; rw [if_neg k0, if_neg k1, if_neg k2, if_neg k3, if_neg k4, if_neg k5, if_pos k6]), by omega⟩
      refine ⟨fun k7 => ?_, fun k7 => ?_⟩
      · refine ⟨_, B3.cell rfl, _, ocells_words B3.all, by rw [i64s_len]; exact hok.len, _, B3.cell rfl, ?_⟩
        refine call (Rot_gen hm3 (by omega) o.a o.xs hok.len o.b) ?_
        rintro _ W4 ⟨rfl, F4, hm4, st4⟩
        exact ⟨((i + 1 : Nat) : Int), by rw [w64 (by omega)]; omega, rfl, i + 1, ⟨rfl, rfl, rfl, rfl, rfl, rfl, trivial⟩, fin' W4 _ _ F4 hm4 st4 (by unfold opL; rw [if_neg k0, if_neg k1, if_neg k2, if_neg k3, if_neg k4, if_neg k5, if_neg k6, if_pos k7]), by omega⟩
      exact ⟨((i + 1 : Nat) : Int), by rw [w64 (by omega)]; omega, rfl, i + 1, ⟨rfl, rfl, rfl, rfl, rfl, rfl, trivial⟩, fin' W3 _ _ F1 (hm3.mono (by omega)) (Step.refl _ _) (by unfold opL; rw [if_neg k0, if_neg k1, if_neg k2, if_neg k3, if_neg k4, if_neg k5, if_neg k6, if_neg k7]), by omega⟩
    · refine ⟨_, BO.cell rfl, ?_⟩
      refine ⟨fun h => absurd h (by omega), fun _ => ⟨fun h => absurd h (by omega), fun _ => ⟨fun h => absurd h (by omega), fun _ => ⟨fun h => absurd h (by omega), fun _ => ⟨fun h => absurd h (by omega), fun _ => ⟨fun h => absurd h (by omega), fun _ => ⟨fun h => absurd h (by omega), fun _ => ⟨fun h => absurd h (by omega), fun _ => ?_⟩⟩⟩⟩⟩⟩⟩⟩
      have hbig8 := opL_big (L := opsL LL os i) (a := o.a) (b := o.b) (xs := o.xs) (show 8 ≤ o.k by omega)
      exact ⟨((i + 1 : Nat) : Int), by rw [w64 (by omega)]; omega, rfl, i + 1, ⟨rfl, rfl, rfl, rfl, rfl, rfl, trivial⟩, ⟨hil, t52, span, span', F1, FS, by rw [opsL_at hog, hbig8]; exact hm2.mono (by omega), by rw [opsL_at hog, hbig8]; exact hs2.mono (by omega), hd, hF1, hFS⟩, by omega⟩
  · obtain rfl : i = os.length := by omega
    refine call (Over_calls W m) ?_
    rintro _ W2 ⟨tv, v, rfl, hv, hvge⟩
    refine call (Over10_calls W2 sm) ?_
    rintro _ W3 ⟨ts, sv, rfl, hsv, hsge⟩
    have zv := tv.size; have zs := ts.size
    have hm3 := hm1.ext (tv.ext ts)
    have hs3 := hs1.ext (tv.ext ts)
    have lm := hm1.lt; have ls := hs1.lt; have lv := hv.lt
    obtain ⟨Lf, hLf⟩ : ∃ Lf, Lf = opsL LL os os.length := ⟨_, rfl⟩
    have hLn : Lf.length = n := by rw [hLf, opsL_len, hLL, List.length_replicate]
    rw [← hLf] at hm3 hs3 ⊢
    refine loop_rule cx_ok (fun (j : Nat) U => j ≤ es.length ∧ Tr [] w5 U ∧ IMem U m Lf span 100 F1 ∧ RMem U sm Lf span' 100 FS ∧ ∃ FV FSV, VMem U 133 v m (setsE n es j) FV ∧ VMem U 42 sv sm (setsE n es j) FSV ∧ Dj F1 FV ∧ Dj F1 FSV ∧ Dj FS FV ∧ Dj FS FSV ∧ Dj FV FSV ∧ (∀ c ∈ FV, w5.heap.size ≤ c) ∧ ∀ c ∈ FSV, w5.heap.size ≤ c)
      (fun j : Nat => [(1, .pointer (some ⟨b1, 0, none⟩)), (2, .pointer (some ⟨b2, 0, none⟩)), (5, .pointer (some ⟨b5, 0, none⟩)), (7, .pointer (some ⟨m, 0, none⟩)), (8, .pointer (some ⟨sm, 0, none⟩)), (11, .pointer (some ⟨v, 0, none⟩)), (12, .pointer (some ⟨sv, 0, none⟩)), (13, .int .i64 (j : Nat))]) (fun j => es.length - j) 0
      ⟨rfl, rfl, rfl, rfl, rfl, rfl, rfl, rfl, trivial⟩ ⟨by omega, tW.ext (tv.ext ts), hm3.mono (by omega), hs3.mono (by omega), [v], [sv], hv.ext ts, hsv, fun c hc hm => by have := lm c hc; simp at hm; omega, fun c hc hm => by have := lm c hc; simp at hm; omega, fun c hc hm => by have := ls c hc; simp at hm; omega, fun c hc hm => by have := ls c hc; simp at hm; omega, fun c hc hm => by have := lv c hc; simp at hm; omega, fun c hc => by simp at hc; omega, fun c hc => by simp at hc; omega⟩ ?_
    rintro j U ⟨hj, tU, hmU, hsU, FV, FSV, hvU, hsvU, d2, d3, d4, d5, d6, gV, gSV⟩
    have B1U := (B1.ext t25).ext tU
    have hlenE := setsE_len n es j
    refine ⟨_, B1U.cell rfl, fun hlt => ?_, fun hge => ?_⟩
    · refine ⟨.bool true, U, ptr_nil_ne rfl under_view _ _ _ U, ?_⟩
      have hjl : j < es.length := by omega
      obtain ⟨e, he⟩ : ∃ e, e = es[j] := ⟨_, rfl⟩
      have heg : es[j]? = some e := by rw [he]; exact List.getElem?_eq_getElem hjl
      have hei := hes e (List.mem_of_getElem? heg)
      obtain ⟨hc0, hc1⟩ := ecells_get heg
      obtain ⟨g, oo, haE, _, hcs⟩ := (hE.ext (t2.ext (t25.ext tU))).head (by omega)
      have k0 : U.cell? ⟨g, oo + j * 2 + 0, none⟩ = some (.int .i64 e.1) := by rw [show oo + j * 2 + 0 = oo + j * 2 by omega]; exact hcs _ _ hc0
      have k1 : U.cell? ⟨g, oo + j * 2 + 1, none⟩ = some (.int .i64 e.2) := by rw [show oo + j * 2 + 1 = oo + (j * 2 + 1) by omega]; exact hcs _ _ hc1
      rw [haE] at B1U
      have hgw : g < w5.heap.size := by
        obtain ⟨g', o', haE', _, hcs0⟩ := hE.head (by omega)
        rw [haE] at haE'
        cases haE'
        have h1 : g < w.heap.size := cell_lt (hcs0 _ _ hc0)
        have h2 := (t2.ext t25).size
        omega
      have hb1w : b1 < w5.heap.size := by have := (B1.ext t25).lt; exact this
      have hgV : g ∉ FV := fun hm => by have := gV g hm; omega
      have hb1V : b1 ∉ FV := fun hm => by have := gV b1 hm; omega
      refine draw_rule cx_ok FV (Plan.takes [0, 1, 2, 3, 4, 5, 6, 7, 8, 9, 10, 11, 12] (.one true 13 .done)) (by kernel_rfl) ?_
      intro U1 dr
      refine ⟨_, fun w' t => t.cell (B1U.cell rfl) hb1V, j, rfl, hjl, _, fun w' t => t.cell k0 hgV, _, fun w' t => t.cell (B1U.cell rfl) hb1V, j, rfl, hjl, _, fun w' t => t.cell k1 hgV, ?_⟩
      refine ⟨?_, trivial⟩
      refine call (VSet_calls (hvU.ext dr.tr) (hmU.ext dr.tr) e.1 e.2 hei (by omega)) ?_
      rintro _ U2 ⟨FV2, hv2, st2⟩
      rw [hLn, ← setsE_at heg] at hv2
      have q2 : Tr FV U U2 := dr.tr.of_ext.trans st2.tr (fun _ h => h) (fun _ h _ => h)
      have s2 : Step U U2 FV FV2 := Step.of_ext dr.tr st2
      refine ⟨q2, ?_⟩
      have lV := hvU.lt; have lSV := hsvU.lt; have lmU := hmU.lt; have lsU := hsU.lt
      have f2 := fresh_step tU gV s2
      have hsv2 := hsvU.tr q2 (fun c hc hm => d6 c hc hm)
      have hs2 := hsU.tr q2 (fun c hc hm => d4 c hm hc)
      have hm2 := hmU.tr q2 (fun c hc hm => d2 c hm hc)
      have B1U2 := B1U.tr q2 hb1V
      have d6' := d6.step s2 lSV
      have d2' : Dj F1 FV2 := (d2.symm.step s2 lmU).symm
      have d4' : Dj FS FV2 := (d4.symm.step s2 lsU).symm
      have hgS : g ∉ FSV := fun hm => by have := gSV g hm; omega
      have hb1S : b1 ∉ FSV := fun hm => by have := gSV b1 hm; omega
      have k02 := q2.cell k0 hgV
      have k12 := q2.cell k1 hgV
      refine draw_rule cx_ok FSV (Plan.takes [0, 1, 2, 3, 4, 5, 6, 7, 8, 9, 10, 11, 12] (.one true 13 .done)) (by kernel_rfl) ?_
      intro U3 dr2
      refine ⟨_, fun w' t => t.cell (B1U2.cell rfl) hb1S, j, rfl, hjl, _, fun w' t => t.cell k02 hgS, _, fun w' t => t.cell (B1U2.cell rfl) hb1S, j, rfl, hjl, _, fun w' t => t.cell k12 hgS, ?_⟩
      refine ⟨?_, trivial⟩
      refine call (VSet10_calls (hsv2.ext dr2.tr) (hs2.ext dr2.tr) e.1 e.2 hei (by omega)) ?_
      rintro _ U4 ⟨FSV2, hsv4, st4⟩
      rw [hLn, ← setsE_at heg] at hsv4
      have q4 : Tr FSV U2 U4 := dr2.tr.of_ext.trans st4.tr (fun _ h => h) (fun _ h _ => h)
      have s4 : Step U2 U4 FSV FSV2 := Step.of_ext dr2.tr st4
      refine ⟨q4, ?_⟩
      have f4 := fresh_step f2.1 gSV s4
      refine ⟨((j + 1 : Nat) : Int), by rw [w64 (by omega)]; omega, rfl, j + 1, ⟨rfl, rfl, rfl, rfl, rfl, rfl, rfl, rfl, trivial⟩, ⟨hjl, f4.1, hm2.tr q4 (fun c hc hm => d3 c hm hc), hs2.tr q4 (fun c hc hm => d5 c hm hc), FV2, FSV2, hv2.tr q4 (fun c hc hm => d6' c hm hc), hsv4, d2', (d3.symm.step s4 hm2.lt).symm, d4', (d5.symm.step s4 hs2.lt).symm, (d6'.symm.step s4 hv2.lt).symm, f2.2, f4.2⟩, by omega⟩
    · have hge' : ¬ ((j : Nat) : Int) < ((es.length : Nat) : Int) := hge
      obtain rfl : j = es.length := by omega
      have B5U := B5.ext tU
      have tU' := t25.ext tU
      refine ⟨_, B5U.all, rfl, hcells n m v sv, rfl, .bool true, U, ptr_nil_ne rfl under_view _ _ _ U, ?_⟩
      have B2U := (B2.ext tU')
      rw [hz11] at B2U
      refine ⟨_, _, B2U, rfl, by show 0 + 11 ≤ 11; decide, rfl, fun U2 u2 => ?_⟩
      have hzU := tU'.size
      have hb2 : b2 < w2.heap.size := by omega
      have hqq : ∀ c, (c ∈ F1 ∨ c ∈ FS ∨ c ∈ FV ∨ c ∈ FSV) → w5.heap.size ≤ c := fun c hc => by
        rcases hc with h | h | h | h
        · exact hF1 c h
        · exact hFS c h
        · exact gV c h
        · exact gSV c h
      have hz25 := t25.size
      have nb : ∀ c, (c ∈ F1 ∨ c ∈ FS ∨ c ∈ FV ∨ c ∈ FSV) → c ≠ b2 := fun c hc => by have := hqq c hc; omega
      refine ⟨_, u2.blk.all, rfl, .inr ⟨hsm.1, hsm.2, m, v, sv, 0, sm, span, span', F1, FS, FV, FSV, rfl, ⟨u2.ext (t2.ext tU') (by omega), hmU.tr u2.tr (fun c hc hm => nb c (.inl hm) (by simpa using hc)), hsU.tr u2.tr (fun c hc hm => nb c (.inr (.inl hm)) (by simpa using hc)), hvU.tr u2.tr (fun c hc hm => nb c (.inr (.inr (.inl hm))) (by simpa using hc)), hsvU.tr u2.tr (fun c hc hm => nb c (.inr (.inr (.inr hm))) (by simpa using hc)), hd, d2, d3, d4, d5, d6, fun c hc => by have := hqq c hc; have := t2.size; omega⟩⟩⟩

end Go.Proofs.YthepaakejpbppaaGreatDoor

/- The law ClassPlacesMatchSpec: it returns true. -/
namespace Go.Proofs.YthepaakejpbppaaGreatDoor
open Go.E

theorem hlay {w : World} {b n m v s T : Nat} (B : Blk w b (hcells n m v s) T) : Cells w b (0 + 0) (lcs n) := fun j x hj => by
  rw [show 0 + 0 + j = j by omega]
  refine B.cell ?_
  unfold hcells
  rw [List.getElem?_append_left (List.getElem?_eq_some_iff.1 hj).1]
  exact hj
theorem hcells_len (n m v s : Nat) : (hcells n m v s).length = 11 := rfl
theorem hcells_one (n m v s : Nat) : (hcells n m v s).all E.one = true := rfl

set_option maxHeartbeats 4000000 in
set_option maxRecDepth 100000 in
theorem Places_calls (w : World) (hg : Gl w) (ln : Nat) (hln : ln < 256) (os : List OpV) (hos : ∀ o ∈ os, o.Ok) (es : List (Int × Int)) (hes : ∀ e ∈ es, inI64 e.1) {sO sE : Value} (hO : SliZ w sO os.length (ocs os)) (hE : SliZ w sE es.length (ecells es)) (chunk line : Int) (hli : inI64 line) :
    Calls cx.P 3 #[.agg #[.int .u8 (ln : Nat), sO, sE], .int .i64 chunk, .int .i64 line] w (Ret fun x w' => x = .bool true ∧ Tr [] w w') := by
  obtain ⟨aO, cO, hsO⟩ := hO.slice
  obtain ⟨aE, cE, hsE⟩ := hE.slice
  subst hsO; subst hsE
  refine calls_body cx_ok (args := [.agg #[.int .u8 (ln : Nat), .slice aO os.length cO, .slice aE es.length cE], .int .i64 chunk, .int .i64 line]) Tryz.func3 rfl 117 rfl rfl [.tmp 6] rfl ?_
  intro b3 w1 n1
  have B3 : Blk w1 b3 [.int .u8 (ln : Nat), .slice aO os.length cO, .slice aE es.length cE] 25 := n1.blk
  refine call (sanity_calls w1 (hg.ext n1.tr)) ?_
  rintro _ w2 ⟨rfl, t2⟩
  have t02 := n1.tr.ext t2
  refine ⟨_, (B3.ext t2).all, rfl, ?_⟩
  refine call (played_calls w2 (hg.ext t02) ln hln os hos es hes (hO.ext t02) (hE.ext t02)) ?_
  rintro x w3 (⟨hno, t3, cs, rfl, hcl, hc1⟩ | ⟨h80, h40, m, v, s, z, sm, span, span', F1, FS, FV, FSV, rfl, hp⟩)
  · intro b8 w4 n4
    have e4 := n4.num; have z4 := n4.size
    refine ⟨_, _, n4.blk, hcl, by show 0 + 11 ≤ 11; decide, hc1, fun w5 u5 => ?_⟩
    exact ⟨rfl, u5.ext ((t02.ext t3).ext n4.tr) (by have := t3.size; have := t02.size; omega)⟩
  · have hn : InL (64 + ln % 40) := by unfold InL; omega
    generalize 64 + ln % 40 = n at *
    generalize opsL (List.replicate n (quiet zeros8)) os os.length = L at *
    intro b8 w4 n4
    have e4 := n4.num; have z4 := n4.size
    refine ⟨_, _, n4.blk, hcells_len n m v s, by show 0 + 11 ≤ 11; decide, hcells_one n m v s, fun w5 u5 => ?_⟩
    have B8 : Blk w5 b8 (hcells n m v s) 33 := u5.blk
    have t35 : Tr [] w3 w5 := u5.ext n4.tr (by omega)
    have t05 := (t02.ext hp.tr).ext t35
    have hm := hp.mem.ext t35
    have hs := hp.spec.ext t35
    obtain ⟨sl, V, _⟩ := hp.sview.rd.ext t35
    have hg5 := hg.ext t05
    have hli' := hli
    refine ⟨_, B8.cell rfl, _, hlay B8, rfl, ?_⟩
    refine call (Assigned_calls hm hg5 hn chunk) ?_
    rintro _ w6 ⟨rfl, t6⟩
    refine draw_rule cx_ok [] (Plan.takes [0, 1, 2, 3, 4, 5, 6, 7] (.one true 8 (Plan.takes [9, 10, 11, 12, 13] .done))) (by kernel_rfl) ?_
    intro w7 d
    refine ⟨_, fun w' t => t.cell ((B8.ext t6).cell rfl) (by simp), _, fun w' t => t.cell ((V.ext t6).cell rfl) (by simp), _, fun w' t => (hlay (B8.ext t6)).tr t (by simp), rfl, ?_⟩
    refine ⟨?_, trivial⟩
    have t57 := t6.ext d.tr
    refine call (Assigned11_calls (hs.ext t57) hn chunk) ?_
    rintro _ w8 ⟨rfl, t8⟩
    refine ⟨d.tr.ext t8, ?_⟩
    have t58 := t57.ext t8
    refine ⟨fun _ => ⟨fun _ => ?_, fun h => absurd rfl h⟩, fun h => absurd rfl h⟩
    refine ⟨_, (B8.ext t58).cell rfl, _, hlay (B8.ext t58), rfl, ?_⟩
    refine call (Of_calls (hm.ext t58) (hg5.ext t58) hn line hli) ?_
    rintro _ w9 ⟨rfl, t9⟩
    have t59 := t58.ext t9
    refine draw_rule cx_ok [] (Plan.takes [0, 1, 2, 3, 4, 5, 6, 7] (.one true 8 (Plan.takes [9, 10, 11, 12, 13] .done))) (by kernel_rfl) ?_
    intro w10 d2
    refine ⟨_, fun w' t => t.cell ((B8.ext t59).cell rfl) (by simp), _, fun w' t => t.cell ((V.ext t59).cell rfl) (by simp), _, fun w' t => (hlay (B8.ext t59)).tr t (by simp), rfl, ?_⟩
    refine ⟨?_, trivial⟩
    have t5_10 := t59.ext d2.tr
    refine call (Of11_calls (hs.ext t5_10) hn line hli) ?_
    rintro _ w11 ⟨rfl, t11⟩
    refine ⟨d2.tr.ext t11, ?_⟩
    have t5_11 := t5_10.ext t11
    refine ⟨fun _ => ⟨fun _ => ?_, fun h => absurd rfl h⟩, fun h => absurd rfl h⟩
    refine ⟨_, (B8.ext t5_11).cell rfl, _, hlay (B8.ext t5_11), rfl, ?_⟩
    refine call (Block_calls (hm.ext t5_11) (hg5.ext t5_11) hn line hli) ?_
    rintro _ w12 ⟨rfl, t12⟩
    have t5_12 := t5_11.ext t12
    intro b14 w13 n13
    have e13 := n13.num; have z13 := n13.size
    refine ⟨_, _, n13.blk, rfl, by show 0 + 4 ≤ 4; decide, rfl, fun w14 u14 => ?_⟩
    have t12_14 : Tr [] w12 w14 := u14.ext n13.tr (by omega)
    have B14 : Blk w14 b14 (bcells (blockL (loadL L) n line).1) 44 := u14.blk
    have t5_14 := t5_12.ext t12_14
    refine cut_rule (α := Nat) (fun b16 => [(7, .bool true), (14, .pointer (some ⟨b14, 0, none⟩)), (15, .int .i64 (blockL (loadL L) n line).2), (16, .pointer (some ⟨b16, 0, none⟩)), (17, .int .i64 (blockL (loadL L) n line).2)])
      (fun b16 W => Tr [] w14 W ∧ Blk W b16 (bcells (blockL (loadL L) n line).1) 44) ?_ ?_
    · refine draw_rule cx_ok [] (Plan.takes [0, 1, 2, 3, 4, 5, 6, 7] (.alt true 8 (Plan.takes [9, 10, 11] (.one true 12 (.one true 13 (Plan.takes [14] .done)))) (.alt true 12 (.one true 8 (Plan.takes [9, 10, 11] (.one true 13 (Plan.takes [14] .done)))) .stop))) (by kernel_rfl) ?_
      intro w15 d3
      have zd := d3.tr.size
      refine ⟨_, fun w' t => t.cell ((B8.ext t5_14).cell rfl) (by simp), _, fun w' t => t.cell ((V.ext t5_14).cell rfl) (by simp), _, fun w' t => (hlay (B8.ext t5_14)).tr t (by simp), rfl, ?_⟩
      refine ⟨?_, ?_, trivial⟩
      · refine call (Block11_calls (hs.ext (t5_14.ext d3.tr)) hn line hli) ?_
        rintro _ w16 ⟨rfl, t16⟩
        have q16 := d3.tr.ext t16
        have z16 := q16.size
        refine ⟨q16, ?_⟩
        refine ⟨?_, trivial⟩
        intro b16 w17 n17
        have e17 := n17.num; have z17 := n17.size
        refine ⟨q16.ext n17.tr, ?_⟩
        refine ⟨⟨_, _, n17.blk, rfl, by show 0 + 4 ≤ 4; decide, rfl, fun w18 u18 => ?_⟩, trivial⟩
        have q18 := u18.ext (q16.ext n17.tr) (by omega)
        exact ⟨q18, rfl, b16, ⟨rfl, rfl, rfl, rfl, rfl, trivial⟩, q18, u18.blk⟩
      · intro b16 w17 n17
        have e17 := n17.num; have z17 := n17.size
        have q17 := d3.tr.ext n17.tr
        refine ⟨q17, ?_⟩
        refine ⟨?_, trivial⟩
        refine call (Block11_calls (hs.ext (t5_14.ext q17)) hn line hli) ?_
        rintro _ w16 ⟨rfl, t16⟩
        have q16 := q17.ext t16
        refine ⟨q16, ?_⟩
        refine ⟨⟨_, _, (show Blk w17 b16 _ _ from n17.blk).ext t16, rfl, by show 0 + 4 ≤ 4; decide, rfl, fun w18 u18 => ?_⟩, trivial⟩
        have q18 := u18.ext q16 (by omega)
        exact ⟨q18, rfl, b16, ⟨rfl, rfl, rfl, rfl, rfl, trivial⟩, q18, u18.blk⟩
    rintro b16 w15 ⟨t15, B16⟩
    refine ⟨_, (B14.ext t15).all, rfl, _, B16.all, rfl, ?_⟩
    refine eql_flat (d := 4) (by decide) flat_block wide_block guard_block _ _ (bcells_eq _) (bcells_eq _) rfl rfl w15 ?_
    rw [decide_eq_true rfl]
    refine ⟨fun _ => ⟨rfl, t05.ext (t5_14.ext t15)⟩, fun h => absurd rfl h⟩

end Go.Proofs.YthepaakejpbppaaGreatDoor

/- Plain law of ClassRotIsLocal: two flipped bits of a clean line make it rotten, and what a scan finds then. -/
namespace Go.Proofs.YthepaakejpbppaaGreatDoor
open Go.E

/-! The code: two bits -/

theorem xor_rc (a b c : Nat) : a ^^^ b ^^^ c = a ^^^ c ^^^ b := by rw [Nat.xor_assoc, Nat.xor_comm b c, ← Nat.xor_assoc]

theorem syn_fold (k : Nat) : ∀ (l : List Nat) (acc : Nat × Nat), l.foldl (synStep k) acc = (acc.1 ^^^ (l.foldl (synStep k) (0, 0)).1, acc.2 + (l.foldl (synStep k) (0, 0)).2)
  | [], acc => by simp
  | b :: r, acc => by
    rw [List.foldl_cons, List.foldl_cons, syn_fold k r (synStep k acc b), syn_fold k r (synStep k (0, 0) b)]
    simp only [synStep, Nat.zero_xor, Nat.xor_assoc]
    refine Prod.ext rfl ?_
    show acc.2 + 1 + _ = acc.2 + (0 + 1 + _)
    omega

theorem bitsL_two (x : Nat) : bitsL x = ((if x.testBit 0 then [0] else []) ++ (if x.testBit 1 then [1] else [])) ++ (List.range' 2 38).filter fun i => x.testBit i := by
  unfold bitsL
  have : List.range 40 = 0 :: 1 :: List.range' 2 38 := by decide
  rw [this]
  simp only [List.filter_cons]
  cases x.testBit 0 <;> cases x.testBit 1 <;> simp

theorem bits_three (x : Nat) : (x ^^^ 3).testBit 0 = !x.testBit 0 ∧ (x ^^^ 3).testBit 1 = !x.testBit 1 ∧ ((List.range' 2 38).filter fun i => (x ^^^ 3).testBit i) = (List.range' 2 38).filter fun i => x.testBit i := by
  refine ⟨by rw [Nat.testBit_xor, show (3 : Nat).testBit 0 = true by decide]; simp, by rw [Nat.testBit_xor, show (3 : Nat).testBit 1 = true by decide]; simp, ?_⟩
  refine List.filter_congr fun i hi => ?_
  have hi := List.mem_range'_1.1 hi
  rw [Nat.testBit_xor]
  have : (3 : Nat).testBit i = false := Nat.testBit_lt_two_pow (Nat.lt_of_lt_of_le (show 3 < 2 ^ 2 by decide) (Nat.pow_le_pow_right (by decide) hi.1))
  rw [this]; simp

/-- The first word, two bits flipped: the syndrome changes by 6, the number by an even one. -/
theorem synW_three (x : Nat) : (synW 0 (x ^^^ 3) (0, 0)).1 = (synW 0 x (0, 0)).1 ^^^ 6 ∧ (synW 0 (x ^^^ 3) (0, 0)).2 % 2 = (synW 0 x (0, 0)).2 % 2 := by
  obtain ⟨h0, h1, h2⟩ := bits_three x
  unfold synW
  rw [bitsL_two (x ^^^ 3), bitsL_two x, h0, h1, h2]
  obtain ⟨R, hR⟩ : ∃ R, R = (List.range' 2 38).filter fun i => x.testBit i := ⟨_, rfl⟩
  rw [← hR]
  obtain ⟨q, hq⟩ : ∃ q, q = R.foldl (synStep 0) (0, 0) := ⟨_, rfl⟩
  have key : ∀ A : List Nat, (A ++ R).foldl (synStep 0) (0, 0) = ((A.foldl (synStep 0) (0, 0)).1 ^^^ q.1, (A.foldl (synStep 0) (0, 0)).2 + q.2) := fun A => by
    rw [List.foldl_append, syn_fold 0 R, hq]
  rw [key, key]
  have p0 : posN (40 * 0 + 0) = 3 := by decide
  have p1 : posN (40 * 0 + 1) = 5 := by decide
  cases x.testBit 0 <;> cases x.testBit 1 <;> simp [synStep, p0, p1]
  · exact Nat.xor_comm _ _
  · rw [xor_rc, show (5 : Nat) ^^^ 6 = 3 by decide]
  · rw [xor_rc, show (3 : Nat) ^^^ 6 = 5 by decide]
  · rw [xor_rc, Nat.xor_self, Nat.zero_xor]

theorem synTo_two (ws ws' : List Nat) (h : ∀ j, 1 ≤ j → ws.getD j 0 = ws'.getD j 0) : ∀ k, 1 ≤ k → ∃ B C, synTo ws k = ((synTo ws 1).1 ^^^ B, (synTo ws 1).2 + C) ∧ synTo ws' k = ((synTo ws' 1).1 ^^^ B, (synTo ws' 1).2 + C)
  | 0, h0 => absurd h0 (by decide)
  | 1, _ => ⟨0, 0, by simp, by simp⟩
  | k + 2, _ => by
    obtain ⟨B, C, h1, h2⟩ := synTo_two ws ws' h (k + 1) (by omega)
    have e1 : synTo ws (k + 2) = synW (k + 1) (ws.getD (k + 1) 0) (synTo ws (k + 1)) := rfl
    have e2 : synTo ws' (k + 2) = synW (k + 1) (ws'.getD (k + 1) 0) (synTo ws' (k + 1)) := rfl
    rw [e1, e2, ← h (k + 1) (by omega)]
    unfold synW
    rw [syn_fold _ _ (synTo ws (k + 1)), syn_fold _ _ (synTo ws' (k + 1)), h1, h2]
    exact ⟨B ^^^ _, C + _, by rw [Nat.xor_assoc, Nat.add_assoc], by rw [Nat.xor_assoc, Nat.add_assoc]⟩

def rot8 : List Nat := [3, 0, 0, 0, 0, 0, 0, 0]

theorem rot_two {ws : List Nat} (h8 : ws.length = 8) {code : Nat} (h : (chk ws code).state = 0) : (chk (xorW ws rot8) code).state = 2 := by
  obtain ⟨a, b, c, d, e, f, g, i, rfl⟩ : ∃ a b c d e f g i, ws = [a, b, c, d, e, f, g, i] := by
    match ws, h8 with
    | [a, b, c, d, e, f, g, i], _ => exact ⟨a, b, c, d, e, f, g, i, rfl⟩
  have hx : xorW [a, b, c, d, e, f, g, i] rot8 = [a ^^^ 3, b, c, d, e, f, g, i] := by simp [xorW, rot8]
  rw [hx]
  obtain ⟨B, C, h1, h2⟩ := synTo_two [a, b, c, d, e, f, g, i] [a ^^^ 3, b, c, d, e, f, g, i] (fun j hj => by
    obtain ⟨j, rfl⟩ : ∃ k, j = k + 1 := ⟨j - 1, by omega⟩
    rfl) 8 (by decide)
  have s1 : synTo [a, b, c, d, e, f, g, i] 1 = synW 0 a (0, 0) := rfl
  have s2 : synTo [a ^^^ 3, b, c, d, e, f, g, i] 1 = synW 0 (a ^^^ 3) (0, 0) := rfl
  obtain ⟨q1, q2⟩ := synW_three a
  rw [s1] at h1
  rw [s2] at h2
  unfold chk syn at h ⊢
  rw [h1] at h
  rw [h2]
  generalize synW 0 (a ^^^ 3) (0, 0) = y at *
  generalize synW 0 a (0, 0) = x at *
  simp only at h ⊢
  have hpar : (y.2 + C + onesN code) % 2 = (x.2 + C + onesN code) % 2 := by omega
  have hs : y.1 ^^^ B ^^^ (code &&& 511) = (x.1 ^^^ B ^^^ (code &&& 511)) ^^^ 6 := by
    rw [q1, xor_rc x.1 6 B, xor_rc _ 6]
  rw [hpar, hs]
  by_cases hp : (x.2 + C + onesN code) % 2 = 1
  · rw [if_pos hp] at h
    split at h
    · simp at h
    · split at h
      · simp at h
      · split at h <;> simp at h
  · rw [if_neg hp] at h ⊢
    split at h
    · rename_i h0
      rw [h0]
      rfl
    · simp at h

/-! The lines -/

def rotAt (L : List Ln) (r : Nat) : List Ln := L.set r ((lnAt L r).rot rot8 0)
theorem rotAt_len (L : List Ln) (r : Nat) : (rotAt L r).length = L.length := by simp [rotAt]
theorem lnAt_set {L : List Ln} {r i : Nat} {l : Ln} (hr : r < L.length) : lnAt (L.set r l) i = if i = r then l else lnAt L i := by
  unfold lnAt
  rw [List.getD_eq_getElem?_getD, List.getD_eq_getElem?_getD]
  by_cases h : i = r
  · subst h; rw [if_pos rfl, List.getElem?_set_self hr]; rfl
  · rw [if_neg h, List.getElem?_set_ne (Ne.symm h)]

theorem rotL_two {L : List Ln} {r : Nat} (hr : r < L.length) (hp : (lnAt L r).pend = []) : rotL L (r : Nat) [3, 0, 0, 0, 0, 0, 0, 0] 0 = (0, rotAt L r) := by
  unfold rotL
  rw [if_neg (fun h => h ⟨by omega, by omega⟩), if_neg (by decide), if_neg (fun h => h (by simpa using hp))]
  simp only [Int.toNat_natCast]
  rfl

theorem fix_rot {ws : List Nat} {code : Nat} (h : (chk ws code).state = 2) : fix ws code = none := by unfold fix; rw [h]; rfl

theorem load_rot {L : List Ln} (hL : LOk L) {r : Nat} (hr : r < L.length) (hs : (chk (lnAt L r).ws (lnAt L r).code).state = 0) (a : Int) (ha : 0 ≤ a ∧ a < 8 * L.length) :
    loadL (rotAt L r) a = if a / 8 = r then (0, 9) else loadL L a := by
  have ha8 : (a.toNat / 8 : Nat) = (a / 8).toNat := by omega
  unfold loadL
  rw [rotAt_len, if_neg (by omega)]
  unfold rotAt
  rw [lnAt_set hr]
  by_cases h : a / 8 = r
  · have h' : a.toNat / 8 = r := by omega
    rw [if_pos h, if_pos h']
    have : ((lnAt L r).rot rot8 0).shows ((lnAt L r).rot rot8 0).pend.length = none := by
      unfold Ln.shows
      have h2 := rot_two (hL _ (lnAt_mem hr)).ws.len hs
      have e : ((lnAt L r).rot rot8 0).code = (lnAt L r).code := by simp [Ln.rot]
      rw [show ((lnAt L r).rot rot8 0).ws = xorW (lnAt L r).ws rot8 from rfl, e, fix_rot h2]
      rfl
    rw [this]
  · have h' : ¬ a.toNat / 8 = r := by omega
    rw [if_neg h, if_neg h', if_neg (fun h => h ha)]

/-! The scan -/

section
variable {ld ld' : Int → Int × Int} {n r : Nat}

/-- ld' is ld, but line r is rotten. -/
def RotLd (ld ld' : Int → Int × Int) (n r : Nat) : Prop := ∀ a, 0 ≤ a → a < 8 * (n : Int) → ld' a = if a / 8 = r then (0, 9) else ld a

theorem chunk_in {n : Nat} (hn : InL n) {line : Int} (h : 16 ≤ line ∧ line < 16 + 16 * (chunksN n : Int)) : 0 ≤ chunkP n line ∧ chunkP n line < chunksN n := by
  have := hn.chunks
  unfold chunkP
  rw [if_neg (by omega)]; omega

theorem assigned_same (hn : InL n) (h : RotLd ld ld' n r) (hr : 14 < r) (k : Int) : assignedL ld' n k = assignedL ld n k := by
  have hc := hn.chunks
  unfold assignedL
  by_cases hk : k < 0 ∨ (chunksN n : Int) ≤ k
  · rw [if_pos hk, if_pos hk]
  · rw [if_neg hk, if_neg hk]
    have := h (112 + k) (by omega) (by omega)
    rw [this, if_neg (show ¬ (112 + k) / 8 = (r : Int) by omega)]

theorem assigned_bad (hn : InL n) (h : RotLd ld ld' n 14) {k : Int} (hk : 0 ≤ k ∧ k < chunksN n) : assignedL ld' n k = (0, 9) := by
  have hc := hn.chunks
  unfold assignedL
  rw [if_neg (by omega)]
  have := h (112 + k) (by omega) (by omega)
  rw [this, if_pos (show (112 + k) / 8 = ((14 : Nat) : Int) by omega)]
  rfl

theorem block_same (hn : InL n) (h : RotLd ld ld' n r) (hr : 14 < r) {line : Int} (hl : 16 ≤ line ∧ line < 16 + 16 * (chunksN n : Int)) (hne : line ≠ r) : blockL ld' n line = blockL ld n line := by
  have hc := hn.chunks
  unfold blockL
  rw [assigned_same hn h hr]
  have := h (8 * line) (by omega) (by omega)
  rw [this, if_neg (show ¬ 8 * line / 8 = (r : Int) by omega)]

theorem block_bad (hn : InL n) (h : RotLd ld ld' n r) (hr : 14 < r) (hl : 16 ≤ (r : Int) ∧ (r : Int) < 16 + 16 * (chunksN n : Int)) : (blockL ld' n r).2 ≠ 0 := by
  have hc := hn.chunks
  unfold blockL
  by_cases h1 : (assignedL ld' n (chunkP n r)).2 ≠ 0
  · rw [if_pos h1]; exact h1
  · rw [if_neg h1]
    split
    · exact (by decide : (1 : Int) ≠ 0)
    · have := h (8 * r) (by omega) (by omega)
      rw [this, if_pos (show 8 * (r : Int) / 8 = r by omega), if_pos (by decide)]
      exact (by decide : (9 : Int) ≠ 0)

theorem starts_in (hn : InL n) {k : Nat} (hk : k < chunksN n) {c : Int} {line : Int} (hl : line ∈ startsL n k c) : 16 ≤ line ∧ line < 16 + 16 * (chunksN n : Int) ∧ (line - 16) / 16 = k := by
  unfold startsL at hl
  split at hl
  · cases hl
  · obtain ⟨j, hj, rfl⟩ := List.mem_map.1 hl
    have hj := List.mem_range.1 hj
    obtain ⟨f1, f2, f3, f4⟩ := pow_facts c.toNat (by omega)
    have : j * 2 ^ c.toNat + 2 ^ c.toNat ≤ 16 := by
      have := Nat.mul_le_mul_right (2 ^ c.toNat) (show j + 1 ≤ 16 / 2 ^ c.toNat by omega)
      rw [Nat.add_mul] at this; omega
    generalize j * 2 ^ c.toNat = q at *
    omega

theorem startsK_in (hn : InL n) {line : Int} (hl : line ∈ startsK ld n (chunksN n)) : 16 ≤ line ∧ line < 16 + 16 * (chunksN n : Int) := by
  unfold startsK at hl
  obtain ⟨k, hk, hl⟩ := List.mem_flatMap.1 hl
  have := starts_in hn (List.mem_range.1 hk) hl
  omega

theorem blockL_line {ld : Int → Int × Int} {n : Nat} {line : Int} (h : (blockL ld n line).2 = 0) : (blockL ld n line).1.1 = line := by
  unfold blockL at h ⊢
  by_cases h1 : (assignedL ld n (chunkP n line)).2 ≠ 0
  · rw [if_pos h1] at h; exact absurd h h1
  · rw [if_neg h1] at h ⊢
    split at h
    · exact absurd h (by decide)
    · rename_i h2
      rw [if_neg h2]
      split at h
      · rename_i h3; exact absurd h h3
      · rename_i h3
        rw [if_neg h3]
        split at h
        · exact absurd h (by decide)
        · rename_i h4; rw [if_neg h4]

/-- What stands of a block in the picture behind the rot. -/
def keepB (r : Nat) (b : BlkV) : Bool := decide (14 + (b.1 - 16) / 16 / 8 ≠ (r : Int)) && decide (b.1 ≠ r)

theorem scanC_rot (hn : InL n) (h : RotLd ld ld' n r) (hr : 14 ≤ r) : ∀ k : Nat, k < chunksN n → (scanC ld' n)[k]? = some (if 14 + k / 8 = r then -2 else chunkVal ld n k) := by
  intro k hk
  have hc := hn.chunks
  unfold scanC chunksK
  rw [List.getElem?_map, List.getElem?_range hk]
  refine congrArg some ?_
  dsimp only
  unfold chunkVal
  by_cases h14 : r = 14
  · subst h14
    rw [assigned_bad hn h (by omega), if_pos (by decide), if_pos (by omega)]
  · rw [assigned_same hn h (by omega), if_neg (show ¬ 14 + k / 8 = r by omega)]

theorem starts_rot (hn : InL n) (h : RotLd ld ld' n r) (hr : 14 ≤ r) : startsK ld' n (chunksN n) = if r = 14 then [] else startsK ld n (chunksN n) := by
  unfold startsK
  by_cases h14 : r = 14
  · rw [if_pos h14, List.flatMap_eq_nil_iff]
    intro k hk
    have hk := List.mem_range.1 hk
    subst h14
    unfold stOf chunkVal
    rw [assigned_bad hn h (by omega), if_pos (by decide)]
    unfold startsL
    rw [if_pos (by omega)]
  · rw [if_neg h14]
    have : stOf ld' n = stOf ld n := by
      funext k
      unfold stOf chunkVal
      rw [assigned_same hn h (by omega)]
    rw [this]

theorem scanB_rot (hn : InL n) (h : RotLd ld ld' n r) (hr : 14 ≤ r) : scanB ld' n = (scanB ld n).filter (keepB r) := by
  have hc := hn.chunks
  unfold scanB
  rw [starts_rot hn h hr]
  have hin := fun line hl => startsK_in (ld := ld) hn (line := line) hl
  generalize startsK ld n (chunksN n) = S at *
  unfold blksOf
  rw [List.filter_map, List.filter_filter]
  by_cases h14 : r = 14
  · rw [if_pos h14]
    have : S.filter (fun a => (keepB r ∘ fun l => (blockL ld n l).1) a && okB ld n a) = [] := by
      rw [List.filter_eq_nil_iff]
      intro l hl
      have := hin l hl
      simp only [Function.comp, Bool.and_eq_true, not_and, okB, keepB, decide_eq_true_eq]
      intro ⟨hk, _⟩ hok
      rw [blockL_line hok] at hk
      omega
    rw [this]; rfl
  · rw [if_neg h14]
    have hf : S.filter (okB ld' n) = S.filter (fun a => (keepB r ∘ fun l => (blockL ld n l).1) a && okB ld n a) := by
      refine List.filter_congr fun l hl => ?_
      have hlr := hin l hl
      simp only [Function.comp, okB, keepB]
      by_cases he : l = r
      · subst he
        rw [decide_eq_false (block_bad hn h (by omega) hlr)]
        by_cases hok : (blockL ld n r).2 = 0
        · rw [blockL_line hok]; simp
        · simp [hok]
      · rw [block_same hn h (by omega) hlr he]
        by_cases hok : (blockL ld n l).2 = 0
        · rw [blockL_line hok, decide_eq_true hok, decide_eq_true he, decide_eq_true (by omega)]; rfl
        · simp [hok]
    rw [hf]
    refine List.map_congr_left fun l hl => ?_
    obtain ⟨hl, hk⟩ := List.mem_filter.1 hl
    simp only [Function.comp, okB, keepB, Bool.and_eq_true, decide_eq_true_eq] at hk
    rw [blockL_line hk.2] at hk
    rw [block_same hn h (by omega) (hin l hl) hk.1.2]

theorem scanX_rot (hn : InL n) (h : RotLd ld ld' n r) (hr : 14 ≤ r) : (r < 16 → (scanX ld' n).length ≤ (scanX ld n).length) ∧ ((scanX ld' n).filter fun l => decide (l ≠ (r : Int))).length ≤ (scanX ld n).length := by
  have hc := hn.chunks
  unfold scanX
  rw [starts_rot hn h hr]
  have hin := fun line hl => startsK_in (ld := ld) hn (line := line) hl
  generalize startsK ld n (chunksN n) = S at *
  by_cases h14 : r = 14
  · rw [if_pos h14]; simp [badOf]
  · rw [if_neg h14]
    have e : (badOf ld' n S).filter (fun l => decide (l ≠ (r : Int))) = (badOf ld n S).filter (fun l => decide (l ≠ (r : Int))) := by
      unfold badOf
      rw [List.filter_filter, List.filter_filter]
      refine List.filter_congr fun l hl => ?_
      by_cases he : l = r
      · subst he; simp
      · unfold okB; rw [block_same hn h (by omega) (hin l hl) he]
    refine ⟨fun h16 => ?_, ?_⟩
    · have : badOf ld' n S = badOf ld n S := by
        unfold badOf
        refine List.filter_congr fun l hl => ?_
        unfold okB; rw [block_same hn h (by omega) (hin l hl) (by have := hin l hl; omega)]
      rw [this]; exact Nat.le_refl _
    · rw [e]; exact List.length_filter_le _ _

end

end Go.Proofs.YthepaakejpbppaaGreatDoor

/- class: alumref11.Fill. -/
namespace Go.Proofs.YthepaakejpbppaaGreatDoor
open Go.E

section
variable {w : World} {n v m : Nat} {L : List Ln} {span N : Nat} {FM : List Nat} {E : List (Int × Int)}

set_option maxHeartbeats 4000000 in
theorem Fill11_calls (hm : RMem w m L span N FM) (hv : RdV w 42 v m E) (hvF : v ∉ FM) (hE : E.length ≤ 1099511627776) (hEw : ∀ e ∈ E, 0 ≤ e.2 ∧ e.2 ≤ 1099511627775) (hn : InL n) (hN : N + 400 < 549755813888) (p : Int) (hp : inI64 p)
    {ws : List Int} {s : Value} {D : Nat → Prop} (hs : SliZD w s ws.length (i64s ws) D) (hD : ∀ c, D c → c ∉ FM) (hlen : ws.length ≤ 140) :
    Calls cx.P 31 #[.pointer (some ⟨v, 0, none⟩), .agg (lcs n).toArray, .int .i64 p, s] w
      (Ret fun x w' => x = .int .i64 (fillL (viewL E (loadL L)) n L p ws).1 ∧ ∃ FM', RMem w' m (fillL (viewL E (loadL L)) n L p ws).2 span (N + 400) FM' ∧ Step w w' FM FM') := by
  have hch := hn.chunks
  have hld := viewL_ok (loadL_ok hm.ok) hEw
  obtain ⟨ax, cs, hss⟩ := hs.slice
  subst hss
  refine calls_body cx_ok (args := [.pointer (some ⟨v, 0, none⟩), .agg (lcs n).toArray, .int .i64 p, .slice ax ws.length cs]) Tryz.func31 rfl 104 rfl rfl [.tmp 8] rfl ?_
  intro b5 w1 n1
  have e1 := n1.num; have z1 := n1.size
  have B5 : Blk w1 b5 (lcs n) 28 := n1.blk
  refine ⟨_, B5.all, rfl, ?_⟩
  refine call (Follow11_calls hld hn (VLoad10_calls (hv.ext n1.tr) hE (hm.ext n1.tr).load) p hp) ?_
  rintro _ w2 ⟨rfl, t2⟩
  have z2 := t2.size
  have hfr := followL_range hld hn p
  have hbr := blockL_range hld hn (lineP p)
  have fin : ∀ (e : Int) (W : World), Tr [] w W → fillL (viewL E (loadL L)) n L p ws = (e, L) → (Value.int .i64 e = .int .i64 (fillL (viewL E (loadL L)) n L p ws).1 ∧ ∃ FM', RMem W m (fillL (viewL E (loadL L)) n L p ws).2 span (N + 400) FM' ∧ Step w W FM FM') := by
    intro e W t h
    rw [h]
    exact ⟨rfl, FM, (hm.ext t).mono (by omega), t.of_ext, fun b hb => .inl hb⟩
  unfold fillL at fin ⊢
  generalize followL (viewL E (loadL L)) n p = b at *
  intro b9 w3 n3
  have e3 := n3.num; have z3 := n3.size
  refine ⟨_, _, n3.blk, rfl, by show 0 + 4 ≤ 4; decide, rfl, fun w4 u4 => ?_⟩
  have z4 := u4.size
  have t14 : Tr [] w1 w4 := u4.ext (t2.ext n3.tr) (by omega)
  have B9 : Blk w4 b9 (bcells b.1) 44 := u4.blk
  have t04 := n1.tr.ext t14
  refine ⟨fun he => ?_, fun he => ?_⟩
  rotate_left
  · rw [if_pos he] at *
    exact fin b.2 w4 t04 rfl
  rw [if_neg (fun h => h he)] at *
  obtain ⟨f1, f2⟩ := hfr he
  obtain ⟨q1, q2, q3, q4, q5, q6⟩ := hbr f2
  rw [← f1] at q1 q4 q5 q6
  refine ⟨_, B9.cell rfl, ?_⟩
  refine call (Room11_calls b.1.2.1 w4) ?_
  rintro _ _ ⟨rfl, rfl⟩
  refine ⟨fun hbig => ?_, fun hbig => ?_⟩
  · rw [if_pos hbig] at *
    exact fin 8 w4 t04 rfl
  rw [if_neg hbig] at *
  obtain ⟨line, hlineE⟩ : ∃ line, line = b.1.1 := ⟨_, rfl⟩
  rw [← hlineE] at fin ⊢ q1
  have C9 : w4.cell? ⟨b9, 0 + 0, none⟩ = some (.int .i64 line) := by rw [hlineE]; exact B9.cell rfl
  have hm4 := hm.ext t04
  have hs4 := hs.ext t04
  have hv4 := hv.ext t04
  obtain ⟨sl, V, _⟩ := hv4
  have hb9 : b9 ∉ FM := fun h => by have := hm.lt b9 h; omega
  have hwi : ∀ x : Int, wordI x = decide (0 ≤ x ∧ x ≤ 1099511627775) := fun x => rfl
  refine loop_rule cx_ok (fun (k : Nat) W => (k ≤ ws.length ∧ ∀ j x, j < k → ws[j]? = some x → wordI x = true) ∧ Tr [] w4 W)
    (fun k : Nat => [(0, .pointer (some ⟨v, 0, none⟩)), (3, .slice ax ws.length cs), (9, .pointer (some ⟨b9, 0, none⟩)), (11, .int .i64 (k : Nat))]) (fun k => ws.length - k) 0
    ⟨rfl, rfl, rfl, rfl, trivial⟩ ⟨⟨by omega, fun j x hj => by omega⟩, Tr.refl _ _⟩ ?_
  rintro k W ⟨⟨hk, hok⟩, tW⟩
  refine ⟨fun hlt => ?_, fun hge => ?_⟩
  · have hkl : k < ws.length := by omega
    obtain ⟨g, o, hax, _, _, hcs⟩ := (hs4.ext tW).head (by omega)
    subst hax
    have hxi : ws[k]? = some ws[k] := List.getElem?_eq_getElem hkl
    have hc : W.cell? ⟨g, o + k * 1, none⟩ = some (.int .i64 ws[k]) := by rw [Nat.mul_one]; exact hcs k _ (i64s_get hxi)
    have bad : ¬ (0 ≤ ws[k] ∧ ws[k] ≤ 1099511627775) → ws.all wordI = false := fun h => by
      rw [List.all_eq_false]
      exact ⟨ws[k], List.getElem_mem hkl, by rw [hwi, decide_eq_false h]; decide⟩
    refine ⟨k, rfl, hkl, _, hc, fun h0 => ?_, fun h0 => ⟨k, rfl, hkl, _, hc, fun h1 => ?_, fun h1 => ?_⟩⟩
    · rw [if_pos (bad (by omega))] at fin ⊢
      exact fin 1 W (t04.ext tW) rfl
    · rw [if_pos (bad (by omega))] at fin ⊢
      exact fin 1 W (t04.ext tW) rfl
    · refine ⟨((k + 1 : Nat) : Int), by rw [w64 (by omega)]; omega, rfl, k + 1, ⟨rfl, rfl, rfl, rfl, trivial⟩, ⟨⟨hkl, fun j x hj hx => ?_⟩, tW⟩, by omega⟩
      by_cases hjk : j = k
      · subst hjk
        rw [hxi] at hx
        cases hx
        rw [hwi, decide_eq_true (by omega)]
      · exact hok j x (by omega) hx
  have hall : ws.all wordI = true := by
    rw [List.all_eq_true]
    intro x hx
    obtain ⟨j, hj⟩ := List.mem_iff_getElem?.1 hx
    exact hok j x (by have := (List.getElem?_eq_some_iff.1 hj).1; omega) hj
  rw [if_neg (by rw [hall]; decide)] at fin ⊢
  clear hok hge hk
  refine loop_rule cx_ok (fun (k : Nat) U => (k ≤ ws.length ∧ ∀ j, j < k → stateI L (line + ((1 + j) / 8 : Nat)) ≠ 2) ∧ Tr [] w4 U)
    (fun k : Nat => [(0, .pointer (some ⟨v, 0, none⟩)), (3, .slice ax ws.length cs), (9, .pointer (some ⟨b9, 0, none⟩)), (12, .int .i64 (k : Nat))]) (fun k => ws.length - k) 0
    ⟨rfl, rfl, rfl, rfl, trivial⟩ ⟨⟨by omega, fun j hj => by omega⟩, tW⟩ ?_
  clear tW W k
  rintro k W ⟨⟨hk, hno⟩, tW⟩
  refine ⟨fun hlt => ?_, fun hge => ?_⟩
  · have hkl : k < ws.length := by omega
    refine draw_rule cx_ok [] (Plan.takes [0, 1, 2, 3, 4, 5, 6, 7, 8, 9] (.one true 10 (Plan.takes [11] .done))) (by kernel_rfl) ?_
    intro W1 d
    refine ⟨_, fun w' t => t.cell ((V.ext tW).cell rfl) (by simp), _, fun w' t => t.cell (tW.cell C9 (by simp)) (by simp), ((1 + k : Nat) : Int), by rw [w64 (by omega)]; omega, (((1 + k) / 8 : Nat) : Int), by decide, by rw [IntWalk.i64_quo _ _ (by omega)]; omega, line + ((1 + k) / 8 : Nat), by rw [w64 (by omega)], ?_⟩
    refine ⟨?_, trivial⟩
    refine call (((hm4.ext tW).ext d.tr).state (line + ((1 + k) / 8 : Nat))) ?_
    rintro _ W2 ⟨rfl, t2'⟩
    refine ⟨d.tr.ext t2', ?_⟩
    have tW2 := tW.ext (d.tr.ext t2')
    refine ⟨fun h2 => ?_, fun hn2 => ?_⟩
    · have hbad : fillBad L line ws.length := ⟨by omega, (1 + k) / 8, by omega, h2⟩
      rw [if_pos hbad] at fin ⊢
      exact fin 9 W2 (t04.ext tW2) rfl
    · refine ⟨((k + 1 : Nat) : Int), by rw [w64 (by omega)]; omega, rfl, k + 1, ⟨rfl, rfl, rfl, rfl, trivial⟩, ⟨⟨hkl, fun j hj => ?_⟩, tW2⟩, by omega⟩
      by_cases hjk : j = k
      · subst hjk; exact hn2
      · exact hno j (by omega)
  have hnb : ¬ fillBad L line ws.length := fun ⟨h0, j, hj, h2⟩ => by
    rcases Nat.eq_zero_or_pos j with h | h
    · subst h; exact hno 0 (by omega) h2
    · refine hno (8 * j - 1) (by omega) ?_
      rw [show (1 + (8 * j - 1)) / 8 = j by omega]
      exact h2
  rw [if_neg hnb]
  obtain ⟨mm, hmm⟩ : ∃ mm, mm = ws.length / 8 := ⟨_, rfl⟩
  have hmm8 : 8 * mm ≤ ws.length ∧ ws.length < 8 * mm + 8 := by omega
  clear hno hge hk fin
  refine loop_rule cx_ok (fun (k : Nat) U => k ≤ ws.length ∧ ∃ F', RMem U m (storeK L (8 * line + 1) ws k) span (N + k) F' ∧ Step w4 U FM F')
    (fun k : Nat => [(0, .pointer (some ⟨v, 0, none⟩)), (3, .slice ax ws.length cs), (9, .pointer (some ⟨b9, 0, none⟩)), (13, .int .i64 (k : Nat))]) (fun k => ws.length - k) 0
    ⟨rfl, rfl, rfl, rfl, trivial⟩ ⟨by omega, FM, hm4.ext tW, tW.of_ext, fun b hb => .inl hb⟩ ?_
  clear tW W k
  rintro k W ⟨hk, F1, hm1, st1⟩
  have hnF : ∀ c, c < w4.heap.size → c ∉ FM → c ∉ F1 := fun c hc hn hm => (st1.sub c hm).elim hn fun h => by omega
  have hvlt : v < w4.heap.size := V.lt
  have hb9lt : b9 < w4.heap.size := B9.lt
  refine ⟨fun hlt => ?_, fun hge => ?_⟩
  · have hkl : k < ws.length := by omega
    obtain ⟨g, o, hax, _, hDg, hcs⟩ := hs4.head (by omega)
    subst hax
    have hxi : ws[k]? = some ws[k] := List.getElem?_eq_getElem hkl
    have hgd : ws.getD k 0 = ws[k] := by rw [List.getD_eq_getElem?_getD, hxi]; rfl
    have hc4 : w4.cell? ⟨g, o + k * 1, none⟩ = some (.int .i64 ws[k]) := by rw [Nat.mul_one]; exact hcs k _ (i64s_get hxi)
    have hc := st1.tr.cell hc4 (hD g hDg)
    have hgF : g ∉ F1 := hnF g (Go.E.cell_lt hc4) (hD g hDg)
    refine draw_rule cx_ok F1 (Plan.takes [0, 1, 2, 3, 4, 5, 6, 7, 8, 9, 10, 11, 12, 13] (.one true 14 .done)) (by kernel_rfl) ?_
    intro W1 d
    refine ⟨_, fun w' t => t.cell ((V.tr st1.tr hvF).cell rfl) (hnF v hvlt hvF), _, fun w' t => t.cell (st1.tr.cell C9 hb9) (hnF b9 hb9lt hb9), (8 * line), by rw [w64 (by omega)], (8 * line + 1), by rw [w64 (by omega)], (8 * line + 1 + k), by rw [w64 (by omega)], k, rfl, hkl, _, fun w' t => t.cell hc hgF, ?_⟩
    refine ⟨?_, trivial⟩
    refine call (Store04_gen (hm1.ext d.tr) (by omega) (8 * line + 1 + k) ws[k] (by unfold inI64; omega)) ?_
    rintro _ W2 ⟨rfl, F2, hm2, st2⟩
    have st2' := Step.of_ext d.tr st2
    refine ⟨st2'.tr, ?_⟩
    refine ⟨((k + 1 : Nat) : Int), by rw [w64 (by omega)]; omega, ?_⟩
    refine ⟨rfl, k + 1, ⟨rfl, rfl, rfl, rfl, trivial⟩, ⟨by omega, F2, ?_, st1.trans st2'⟩, by omega⟩
    show RMem W2 m (putL (storeK L (8 * line + 1) ws k) (8 * line + 1 + k) (ws.getD k 0)).2 span (N + k + 1) F2
    rw [hgd]
    exact hm2
  obtain rfl : k = ws.length := by have hge' : ¬ ((k : Nat) : Int) < ((ws.length : Nat) : Int) := hge; omega
  clear hge hk hnF
  refine loop_rule cx_ok (fun (k : Nat) U => k ≤ mm + 1 ∧ ∃ F', RMem U m (flushK (storeK L (8 * line + 1) ws ws.length) line k) span (N + ws.length + k) F' ∧ Step w4 U FM F')
    (fun k : Nat => [(0, .pointer (some ⟨v, 0, none⟩)), (3, .slice ax ws.length cs), (9, .pointer (some ⟨b9, 0, none⟩)), (14, .int .i64 (k : Nat))]) (fun k => mm + 1 - k) 0
    ⟨rfl, rfl, rfl, rfl, trivial⟩ ⟨by omega, F1, hm1, st1⟩ ?_
  clear hm1 st1 F1 W
  rintro k W ⟨hk, F1, hm1, st1⟩
  have hnF : ∀ c, c < w4.heap.size → c ∉ FM → c ∉ F1 := fun c hc hn hm => (st1.sub c hm).elim hn fun h => by omega
  refine ⟨((mm : Nat) : Int), by decide, by rw [IntWalk.i64_quo _ _ (by omega)]; omega, fun hle => ?_, fun hgt => ?_⟩
  · have hle' : ((k : Nat) : Int) ≤ ((mm : Nat) : Int) := hle
    refine draw_rule cx_ok F1 (Plan.takes [0, 1, 2, 3, 4, 5, 6, 7] (.one true 8 .done)) (by kernel_rfl) ?_
    intro W1 d
    refine ⟨_, fun w' t => t.cell ((V.tr st1.tr hvF).cell rfl) (hnF v hvlt hvF), _, fun w' t => t.cell (st1.tr.cell C9 hb9) (hnF b9 hb9lt hb9), line + (k : Nat), by rw [w64 (by omega)], ?_⟩
    refine ⟨?_, trivial⟩
    refine call (Flush04_gen (hm1.ext d.tr) (by omega) (line + (k : Nat))) ?_
    rintro _ W2 ⟨rfl, F2, hm2, st2⟩
    have st2' := Step.of_ext d.tr st2
    refine ⟨st2'.tr, ?_⟩
    exact ⟨((k + 1 : Nat) : Int), by rw [w64 (by omega)]; omega, rfl, k + 1, ⟨rfl, rfl, rfl, rfl, trivial⟩, ⟨by omega, F2, hm2, st1.trans st2'⟩, by omega⟩
  · have hgt' : ¬ ((k : Nat) : Int) ≤ ((mm : Nat) : Int) := hgt
    obtain rfl : k = mm + 1 := by omega
    rw [← hmm]
    exact ⟨rfl, F1, hm1.mono (by omega), Step.of_ext t04 st1⟩

end

end Go.Proofs.YthepaakejpbppaaGreatDoor

/- What the memories show, and what is durable: Seen, Image; SameSeen. -/
namespace Go.Proofs.YthepaakejpbppaaGreatDoor
open Go.E

def showL (l : Ln) : List Nat := l.shown l.pend.length
def seenL (L : List Ln) : List (List Nat) := L.map showL
def imgL (L : List Ln) : List (List Nat × Nat) := L.map fun l => (l.ws, l.code)
def scells (S : List (List Nat)) : List Value := S.flatMap wcells

theorem opt_show (l : Ln) : optCells (l.shows l.pend.length) = wcells (showL l) := by
  unfold showL Ln.shown
  cases l.shows l.pend.length <;> rfl
theorem showL_ok {l : Ln} (h : l.Ok) : Line8 (showL l) := h.shown _
theorem seenL_ok {L : List Ln} (h : LOk L) : ∀ s ∈ seenL L, Line8 s := fun s hs => by
  obtain ⟨l, hl, rfl⟩ := List.mem_map.1 hs
  exact showL_ok (h l hl)
theorem seenL_len (L : List Ln) : (seenL L).length = L.length := by simp [seenL]
theorem imgL_len (L : List Ln) : (imgL L).length = L.length := by simp [imgL]

theorem fm_at8 {S : List (List Nat)} (hS : ∀ s ∈ S, Line8 s) {i : Nat} {r : List Nat} (hr : S[i]? = some r) {W : World} {g o : Nat} (hc : Cells W g o (scells S)) : Cells W g (o + i * 8) (wcells r) := fun j v hv => by
  rw [Nat.add_assoc]
  exact hc _ _ (fm_get (k := 8) (fun r hr => wcells_len (hS r hr)) hr hv)

section
variable {w : World} {p : Nat} {L : List Ln} {span N : Nat} {F : List Nat}

set_option maxHeartbeats 1000000 in
theorem Seen_gen (h : IMem w p L span N F) (hg : Gl w) :
    Calls cx.P 33 #[.pointer (some ⟨p, 0, none⟩)] w (Ret fun v w' => Tr [] w w' ∧ ∃ bo, v = .slice (some ⟨bo, 0, none⟩) L.length L.length ∧ w.heap.size ≤ bo ∧ Blk w' bo (scells (seenL L)) 69) := by
  obtain ⟨bl, bm, rows, evv, nev, hw, h2, h3, h4, rfl⟩ := h
  have hm := hw.toMemX
  have hsm := hm.small
  obtain ⟨n, hn⟩ : ∃ n, n = rows.length := ⟨_, rfl⟩
  have hLn : L.length = n := by rw [← h2, List.length_map, hn]
  rw [hLn]
  refine calls_body cx_ok (args := [.pointer (some ⟨p, 0, none⟩)]) Tryz.func33 rfl 43 rfl rfl [.tmp 2] rfl ?_
  refine ⟨_, hm.head.cell rfl, ?_⟩
  rw [← hn] at hsm ⊢
  refine ⟨n, n, rfl, rfl, Nat.le_refl _, ⟨by show n * 64 ≤ _; omega, by omega, rfl⟩, fun bo w1 n1 => ?_⟩
  have e1 := n1.num; have z1 := n1.size
  refine ⟨_, (hm.head.ext n1.tr).cell rfl, ?_⟩
  rw [← hn]
  have hS8 := seenL_ok (L := L) (by intro l hl; rw [← h2] at hl; obtain ⟨r, hr, rfl⟩ := List.mem_map.1 hl; exact hm.ok r hr)
  have hSl : (seenL L).length = n := by rw [seenL_len, hLn]
  have hSg : ∀ (i : Nat) (r : Ln × Value), rows[i]? = some r → (seenL L)[i]? = some (showL r.1) := fun i r hr => by
    unfold seenL
    rw [List.getElem?_map, ← h2, List.getElem?_map, hr]; rfl
  generalize seenL L = S at *
  obtain ⟨G, hG⟩ : ∃ G : Nat → List (List Nat), G = fun k => S.take k ++ List.replicate (n - k) zeros8 := ⟨_, rfl⟩
  have hG8 : ∀ k, ∀ r ∈ G k, (wcells r).length = 8 := fun k r hr => by
    rw [hG] at hr
    rcases List.mem_append.1 hr with hr | hr
    · exact wcells_len (hS8 r (List.mem_of_mem_take hr))
    · rw [List.eq_of_mem_replicate hr]; rfl
  have hGl : ∀ k, k ≤ n → (G k).length = n := fun k hk => by rw [hG]; simp; omega
  have B0 : Blk w1 bo (scells (G 0)) 69 := by
    have hb := n1.blk
    have : G 0 = List.replicate n zeros8 := by rw [hG]; simp
    unfold scells
    rw [this, ← flatten_rep n _ zeros8 wcells rfl]
    exact hb
  refine loop_rule cx_ok (fun k W => k ≤ n ∧ Tr [] w W ∧ Blk W bo (scells (G k)) 69) (fun k : Nat => [(0, .pointer (some ⟨p, 0, none⟩)), (3, .slice (some ⟨bo, 0, none⟩) n n), (15, .int .i64 n), (16, .int .i64 k)]) (fun k => n - k) 0
    ⟨rfl, rfl, rfl, rfl, trivial⟩ ⟨by omega, n1.tr, B0⟩ ?_
  rintro k W ⟨hk, tW, BW⟩
  have zW := tW.size
  have hboW := BW.lt
  have mW := hm.ext tW
  have gW := hg.ext tW
  refine ⟨fun hlt => ?_, fun hge => ?_⟩
  · have hkn : k < n := by omega
    obtain ⟨r, hr⟩ : ∃ r, rows[k]? = some r := ⟨_, List.getElem?_eq_getElem (by omega)⟩
    have hok := hm.ok r (List.mem_of_getElem? hr)
    obtain ⟨ap, cp, hpv⟩ := Row.slice (mW.pend r (List.mem_of_getElem? hr))
    have hpc := mW.pcell hr
    rw [hpv] at hpc
    have hGk : (G k)[k]? = some zeros8 := by
      rw [hG]
      simp only
      rw [List.getElem?_append_right (by simp; omega), List.length_take, List.getElem?_replicate, if_pos (by omega)]
    have hGs : G (k + 1) = (G k).set k (showL r.1) := by
      rw [hG]
      simp only
      rw [take_snoc (hSg k r hr), List.set_append, if_neg (by simp; omega), List.length_take, Nat.min_eq_left (by omega), Nat.sub_self]
      have : n - k = (n - (k + 1)) + 1 := by omega
      rw [this, List.replicate_succ, List.set_cons_zero]
      simp
    refine draw_rule cx_ok [bo] (Plan.takes [0, 1, 2, 3, 4, 5, 6, 7, 8, 9, 10, 11, 12, 13, 14, 15, 16] (.one true 17 (Plan.takes [18, 19, 20, 21] (.one true 22 .done)))) (by kernel_rfl) ?_
    intro W1 d
    have hnb : ∀ c, c < w.heap.size → c ∉ [bo] := fun c hc hm => by simp at hm; omega
    have hfl := hm.foot_lt
    refine ⟨_, fun w' t => t.cell (mW.head.cell rfl) (hnb p (hfl p in_p)), k, rfl, by rw [← hn]; exact hkn, _, fun w' t => t.cell (mW.head.cell rfl) (hnb p (hfl p in_p)), k, rfl, by rw [← hn]; exact hkn, _, fun w' t => t.cell hpc (hnb bl (hfl bl in_bl)), ?_⟩
    refine ⟨?_, trivial⟩
    refine call (shows_calls (mW.ext d.tr) (gW.ext d.tr) k r.1.pend.length hr (Nat.le_refl _)) ?_
    rintro _ W2 ⟨rfl, t2⟩
    rw [opt_show]
    have t12 := d.tr.ext t2
    refine ⟨t12.of_ext, ?_⟩
    have B2 := BW.ext t12
    have hl8 : (wcells (showL r.1)).length = 8 := wcells_len (showL_ok hok)
    refine ⟨k, rfl, hkn, ?_⟩
    refine ⟨⟨_, _, B2, hl8, by unfold scells; rw [fm_len (hG8 k), hGl k hk]; show 0 + k * 8 + 8 ≤ _; omega, wcells_one _, fun W3 u3 => ?_⟩, trivial⟩
    have B3 : Blk W3 bo (scells (G (k + 1))) 69 := by
      have hb := u3.blk
      unfold scells
      rw [hGs, ← fm_splice (k := 8) (n := 8) (o := 0) (vs := wcells (showL r.1)) splice (by funext l o n vs; rfl) (hG8 k) hGk (by omega) (by rw [splice_all (hG8 k _ (List.mem_of_getElem? hGk)) hl8])]
      rw [show k * 8 + 0 = 0 + k * 8 by omega]
      exact hb
    refine ⟨t12.of_ext.trans u3.tr (fun _ h => h) (fun c hc _ => hc), ?_⟩
    refine ⟨((k + 1 : Nat) : Int), by rw [w64 (by omega)]; omega, ?_⟩
    exact ⟨rfl, k + 1, ⟨rfl, rfl, rfl, rfl, trivial⟩, ⟨hkn, u3.ext (tW.ext t12) (by omega), B3⟩, by omega⟩
  · have hkn : k = n := by omega
    have : G k = S := by rw [hG, hkn]; simp [← hSl]
    rw [this] at BW
    exact ⟨tW, bo, rfl, by omega, BW⟩

theorem Image_gen (h : IMem w p L span N F) :
    Calls cx.P 38 #[.pointer (some ⟨p, 0, none⟩)] w (Ret fun v w' => Tr [] w w' ∧ ∃ bo, v = .slice (some ⟨bo, 0, none⟩) L.length L.length ∧ w.heap.size ≤ bo ∧ Blk w' bo ((imgL L).flatMap ilc) 113) := by
  obtain ⟨bl, bm, rows, evv, nev, hw, h2, h3, h4, rfl⟩ := h
  have := Image_calls hw.toMemX
  have e : rows.map iOf = imgL L := by unfold imgL; rw [← h2, List.map_map]; rfl
  have e2 : rows.length = L.length := by rw [← h2, List.length_map]
  rw [e, e2] at this
  exact this

theorem seenL_succ {L : List Ln} {k : Nat} {l : Ln} (h : L[k]? = some l) : (seenL L).take (k + 1) = (seenL L).take k ++ [showL l] := take_snoc (by unfold seenL; rw [List.getElem?_map, h]; rfl)
theorem imgL_succ {L : List Ln} {k : Nat} {l : Ln} (h : L[k]? = some l) : (imgL L).take (k + 1) = (imgL L).take k ++ [(l.ws, l.code)] := take_snoc (by unfold imgL; rw [List.getElem?_map, h]; rfl)

set_option maxHeartbeats 1000000 in
theorem Seen04_gen (h : RMem w p L span N F) :
    Calls cx.P 34 #[.pointer (some ⟨p, 0, none⟩)] w (Ret fun v w' => Tr [] w w' ∧ SliD w' v L.length (scells (seenL L)) fun c => w.heap.size ≤ c) := by
  obtain ⟨rows, lv, evv, nev, hm, h2, h3, h4, rfl⟩ := h
  have hsm := hm.small
  have hLn : rows.length = L.length := by rw [← h2, List.length_map]
  obtain ⟨al, cl, rfl⟩ := hm.slice
  have hS8 := seenL_ok (L := L) (by intro l hl; rw [← h2] at hl; obtain ⟨r, hr, rfl⟩ := List.mem_map.1 hl; exact hm.ok r hr)
  refine calls_body cx_ok (args := [.pointer (some ⟨p, 0, none⟩)]) Tryz.func34 rfl 21 rfl rfl [.tmp 2] rfl ?_
  refine loop_rule cx_ok (fun (x : Nat × Value) W => x.1 ≤ L.length ∧ Tr [] w W ∧ Row W 69 8 x.2 x.1 (scells ((seenL L).take x.1)) ∧ ∀ c, x.2.ownBlock = some c → w.heap.size ≤ c)
    (fun x : Nat × Value => [(0, .pointer (some ⟨p, 0, none⟩)), (3, x.2), (4, .int .i64 (x.1 : Nat))]) (fun x => L.length - x.1) (0, .slice none 0 0)
    ⟨rfl, rfl, rfl, trivial⟩ ⟨by dsimp only; omega, Tr.refl _ _, World.ownsRow_nil _ _ _ _, fun b hb => by simp [Value.ownBlock] at hb⟩ ?_
  rintro ⟨k, sv⟩ W ⟨hk, tW, RW, hv⟩
  dsimp only at hk RW hv
  have zW := tW.size
  have mW := hm.ext tW
  refine ⟨_, mW.head.cell rfl, fun hlt => ?_, fun hge => ?_⟩
  · have hkl : k < L.length := by have hlt' : ((k : Nat) : Int) < ((rows.length : Nat) : Int) := hlt; omega
    obtain ⟨r, hr⟩ : ∃ r, rows[k]? = some r := ⟨_, List.getElem?_eq_getElem (by omega)⟩
    have hLk : L[k]? = some r.1 := by rw [← h2, List.getElem?_map, hr]; rfl
    have hok := hm.ok r (List.mem_of_getElem? hr)
    refine call (Shows04_calls mW k hr) ?_
    rintro _ W2 ⟨rfl, t2⟩
    have z2 := t2.size
    rw [show shr r = r.1.shows r.1.pend.length from rfl, opt_show]
    have hl8 : (wcells (showL r.1)).length = 8 := wcells_len (showL_ok hok)
    refine ⟨_, fill_one (sz := 8) rfl hl8, fun b9 w9 n9 => ?_⟩
    have e9 := n9.num; have z9 := n9.size
    refine append_own cx_ok (x := ⟨1, 24, false, [.slice none 0 0], .slice 69⟩) rfl rfl rfl (by decide) (Row.tr RW (t2.ext n9.tr) (by simp)) b9 0 1 1 (wcells (showL r.1)) hl8 n9.blk.all (wcells_one _) (by omega) (by decide) ?_
    intro v5 w5 hr5 t5 hat5 _
    refine ⟨((k + 1 : Nat) : Int), by rw [w64 (by omega)]; omega, rfl, (k + 1, v5), ⟨rfl, rfl, rfl, trivial⟩, ⟨hkl, ((tW.ext t2).ext n9.tr).trans t5 (fun _ h => h) (fun c hc hlt => by have := hv c (by simpa using hc); omega), ?_, fun c hc => ?_⟩, by dsimp only; omega⟩
    · dsimp only
      unfold scells at hr5 ⊢
      rw [seenL_succ hLk, List.flatMap_append, List.flatMap_singleton]
      exact hr5
    · rcases hat5 with h | h
      · exact hv c (h ▸ hc)
      · rw [h] at hc; have := Option.some.inj hc; omega
  · have hkn : k = L.length := by have hge' : ¬ ((k : Nat) : Int) < ((rows.length : Nat) : Int) := hge; omega
    subst hkn
    rw [← seenL_len L, List.take_length, seenL_len] at RW
    exact ⟨tW, (Row.slid RW).mono fun c hc => hv c hc⟩

theorem fill_line (ws : List Nat) (c : Nat) (h : ws.length = 8) : Go.E.fillL (fun i => ([(0, 8), (8, 1)] : List (Nat × Nat))[i]?) (List.replicate 9 (.int .i64 0)) [(0, .agg (wcells ws).toArray), (1, .int .i64 (c : Nat))] = some (ilc (ws, c)) := by
  have h8 : (wcells ws).length = 8 := by simp [wcells, h]
  simp [Go.E.fillL, vcells, h8, splice, ilc]

set_option maxHeartbeats 1000000 in
theorem Image04_gen (h : RMem w p L span N F) :
    Calls cx.P 39 #[.pointer (some ⟨p, 0, none⟩)] w (Ret fun v w' => Tr [] w w' ∧ SliD w' v L.length ((imgL L).flatMap ilc) fun c => w.heap.size ≤ c) := by
  obtain ⟨rows, lv, evv, nev, hm, h2, h3, h4, rfl⟩ := h
  have hsm := hm.small
  have hLn : rows.length = L.length := by rw [← h2, List.length_map]
  obtain ⟨al, cl, rfl⟩ := hm.slice
  refine calls_body cx_ok (args := [.pointer (some ⟨p, 0, none⟩)]) Tryz.func39 rfl 35 rfl rfl [.tmp 2] rfl ?_
  refine loop_rule cx_ok (fun (x : Nat × Value) W => x.1 ≤ L.length ∧ Tr [] w W ∧ Row W 113 9 x.2 x.1 (((imgL L).take x.1).flatMap ilc) ∧ ∀ c, x.2.ownBlock = some c → w.heap.size ≤ c)
    (fun x : Nat × Value => [(0, .pointer (some ⟨p, 0, none⟩)), (3, x.2), (4, .int .i64 (x.1 : Nat))]) (fun x => L.length - x.1) (0, .slice none 0 0)
    ⟨rfl, rfl, rfl, trivial⟩ ⟨by dsimp only; omega, Tr.refl _ _, World.ownsRow_nil _ _ _ _, fun b hb => by simp [Value.ownBlock] at hb⟩ ?_
  rintro ⟨k, sv⟩ W ⟨hk, tW, RW, hv⟩
  dsimp only at hk RW hv
  have zW := tW.size
  have mW := hm.ext tW
  refine ⟨_, mW.head.cell rfl, fun hlt => ?_, fun hge => ?_⟩
  · have hkl : k < L.length := by have hlt' : ((k : Nat) : Int) < ((rows.length : Nat) : Int) := hlt; omega
    have hkr : k < rows.length := by omega
    obtain ⟨r, hr⟩ : ∃ r, rows[k]? = some r := ⟨_, List.getElem?_eq_getElem hkr⟩
    have hLk : L[k]? = some r.1 := by rw [← h2, List.getElem?_map, hr]; rfl
    have hok := hm.ok r (List.mem_of_getElem? hr)
    obtain ⟨g, cap, hal, hc⟩ := mW.list hkr
    obtain ⟨rfl, _, rfl⟩ := Value.slice.inj hal
    have hcr := rcell mW.lens hc hr
    have hown : ∀ c, c < w.heap.size → c ∉ sv.ownBlock.toList := fun c hc hm => by have := hv c (by simpa using hm); omega
    have hpl : p ∉ sv.ownBlock.toList := hown p hm.head.lt
    have hgl : g ∉ sv.ownBlock.toList := hown g (by obtain ⟨g', cap', hal', hc'⟩ := hm.list hkr; cases hal'; exact Go.E.cell_lt ((rcell hm.lens hc' hr) 8 _ (lcells_code hok)))
    refine draw_rule cx_ok sv.ownBlock.toList (Plan.takes [0, 1, 2, 3, 4, 5, 6, 7, 8, 9, 10, 11, 12, 13, 14, 15, 16, 17] (.one true 18 (.one true 19 (Plan.takes [20] .done)))) (by kernel_rfl) ?_
    intro W1 d
    refine ⟨_, fun w' t => t.cell (mW.head.cell rfl) hpl, k, rfl, hkr, _, fun w' t => (rwords hcr).tr t hgl, wcells_len hok.ws, _, fun w' t => t.cell (mW.head.cell rfl) hpl, k, rfl, hkr, _, fun w' t => t.cell (hcr 8 _ (lcells_code hok)) hgl, _, fill_line _ _ hok.ws.len, ?_⟩
    refine ⟨?_, trivial⟩
    have hl9 : (ilc (r.1.ws, r.1.code)).length = 9 := ilc_len hok.ws.len
    refine ⟨_, fill_one (sz := 9) rfl hl9, fun b9 w9 n9 => ?_⟩
    have e9 := n9.num; have z9 := n9.size
    have zd := d.tr.size
    have td := d.tr.ext n9.tr
    refine ⟨td.of_ext, ?_⟩
    refine ⟨?_, trivial⟩
    refine append_own cx_ok (x := ⟨1, 24, false, [.slice none 0 0], .slice 113⟩) rfl rfl rfl (by decide) (Row.tr RW td (by simp)) b9 0 1 1 (ilc (r.1.ws, r.1.code)) hl9 n9.blk.all (ilc_one _) (by omega) (by decide) ?_
    intro v5 w5 hr5 t5 hat5 _
    refine ⟨td.of_ext.trans t5 (fun _ h => h) (fun c hc _ => hc), ?_⟩
    refine ⟨((k + 1 : Nat) : Int), by rw [w64 (by omega)]; omega, rfl, (k + 1, v5), ⟨rfl, rfl, rfl, trivial⟩, ⟨hkl, (tW.ext td).trans t5 (fun _ h => h) (fun c hc hlt => by have := hv c (by simpa using hc); omega), ?_, fun c hc => ?_⟩, by dsimp only; omega⟩
    · dsimp only
      rw [imgL_succ hLk, List.flatMap_append, List.flatMap_singleton]
      exact hr5
    · rcases hat5 with h | h
      · exact hv c (h ▸ hc)
      · rw [h] at hc; have := Option.some.inj hc; omega
  · have hkn : k = L.length := by have hge' : ¬ ((k : Nat) : Int) < ((rows.length : Nat) : Int) := hge; omega
    subst hkn
    rw [← imgL_len L, List.take_length, imgL_len] at RW
    exact ⟨tW, (Row.slid RW).mono fun c hc => hv c hc⟩

end

end Go.Proofs.YthepaakejpbppaaGreatDoor

/- The law ClassFillMatchesSpec: it returns true. -/
namespace Go.Proofs.YthepaakejpbppaaGreatDoor
open Go.E

section
variable {w : World}

theorem SameSeen_calls (S : List (List Nat)) (hS : ∀ s ∈ S, Line8 s) (n : Nat) (hn : S.length = n) (hsm : n ≤ 1048576) {s t : Value} (h1 : Sli w s n (scells S)) (h2 : Sli w t n (scells S)) :
    Calls cx.P 32 #[s, t] w (Ret fun v w' => v = .bool true ∧ Tr [] w w') := by
  obtain ⟨a1, c1, rfl⟩ := h1.slice
  obtain ⟨a2, c2, rfl⟩ := h2.slice
  refine calls_body cx_ok (args := [.slice a1 n c1, .slice a2 n c2]) Tryz.func32 rfl 26 rfl rfl [.tmp 4] rfl ?_
  refine ⟨fun _ => ?_, fun h => absurd rfl h⟩
  refine loop_rule cx_ok (fun k W => k ≤ n ∧ Tr [] w W) (fun k : Nat => [(0, .slice a1 n c1), (1, .slice a2 n c2), (5, .int .i64 k)]) (fun k => n - k) 0 ⟨rfl, rfl, rfl, trivial⟩ ⟨by omega, Tr.refl _ _⟩ ?_
  rintro k W ⟨hk, tW⟩
  refine ⟨fun hlt => ?_, fun hge => ⟨rfl, tW⟩⟩
  have hkn : k < n := by omega
  obtain ⟨b1, o1, rfl, _, g1⟩ := (h1.ext tW).head (by omega)
  obtain ⟨b2, o2, rfl, _, g2⟩ := (h2.ext tW).head (by omega)
  obtain ⟨r, hr⟩ : ∃ r, S[k]? = some r := ⟨_, List.getElem?_eq_getElem (by omega)⟩
  have hc1 := fm_at8 hS hr g1
  have hc2 := fm_at8 hS hr g2
  have h8 := hS r (List.mem_of_getElem? hr)
  refine draw_rule cx_ok [] (Plan.takes [0, 1, 2, 3, 4, 5, 6, 7] (.one true 8 .done)) (by kernel_rfl) ?_
  intro W1 d
  refine ⟨k, rfl, hkn, _, fun w' t => hc1.tr t (by simp), wcells_len h8, k, rfl, hkn, _, fun w' t => hc2.tr t (by simp), wcells_len h8, ?_⟩
  refine ⟨?_, trivial⟩
  refine neq_flat (d := 4) (by decide) flat_words wide_words guard_words _ _ (wcells_ints r) (wcells_ints r) (by simp [h8.len]) (by simp [h8.len]) W1 ?_
  rw [decide_eq_true rfl]
  refine ⟨d.tr, ?_⟩
  exact ⟨((k + 1 : Nat) : Int), by rw [w64 (by omega)]; omega, rfl, k + 1, ⟨rfl, rfl, rfl, trivial⟩, ⟨hkn, tW.ext d.tr⟩, by omega⟩

theorem SameImg_calls (L : List (List Nat × Nat)) (hL : ∀ r ∈ L, r.1.length = 8) (n : Nat) (hn : L.length = n) (hsm : n ≤ 1048576) {s t : Value} (h1 : Sli w s n (L.flatMap ilc)) (h2 : Sli w t n (L.flatMap ilc)) :
    Calls cx.P 37 #[s, t] w (Ret fun v w' => v = .bool true ∧ Tr [] w w') := by
  obtain ⟨a1, c1, rfl⟩ := h1.slice
  obtain ⟨a2, c2, rfl⟩ := h2.slice
  refine calls_body cx_ok (args := [.slice a1 n c1, .slice a2 n c2]) Tryz.func37 rfl 26 rfl rfl [.tmp 4] rfl ?_
  refine ⟨fun _ => ?_, fun h => absurd rfl h⟩
  refine loop_rule cx_ok (fun k W => k ≤ n ∧ Tr [] w W) (fun k : Nat => [(0, .slice a1 n c1), (1, .slice a2 n c2), (5, .int .i64 k)]) (fun k => n - k) 0 ⟨rfl, rfl, rfl, trivial⟩ ⟨by omega, Tr.refl _ _⟩ ?_
  rintro k W ⟨hk, tW⟩
  refine ⟨fun hlt => ?_, fun hge => ⟨rfl, tW⟩⟩
  have hkn : k < n := by omega
  obtain ⟨b1, o1, rfl, _, g1⟩ := (h1.ext tW).head (by omega)
  obtain ⟨b2, o2, rfl, _, g2⟩ := (h2.ext tW).head (by omega)
  obtain ⟨r, hr⟩ : ∃ r, L[k]? = some r := ⟨_, List.getElem?_eq_getElem (by omega)⟩
  have hc1 := fm_at9 hL hr g1
  have hc2 := fm_at9 hL hr g2
  have h8 := hL r (List.mem_of_getElem? hr)
  have hl9 : (ilc r).length = 9 := ilc_len h8
  refine draw_rule cx_ok [] (Plan.takes [0, 1, 2, 3, 4, 5, 6, 7] (.one true 8 .done)) (by kernel_rfl) ?_
  intro W1 d
  refine ⟨k, rfl, hkn, _, fun w' t => hc1.tr t (by simp), hl9, k, rfl, hkn, _, fun w' t => hc2.tr t (by simp), hl9, ?_⟩
  refine ⟨?_, trivial⟩
  refine neq_flat (d := 4) (by decide) flat_line wide_line guard_line _ _ (ilc_ints r) (ilc_ints r) (by simp [h8]) (by simp [h8]) W1 ?_
  rw [decide_eq_true rfl]
  refine ⟨d.tr, ?_⟩
  exact ⟨((k + 1 : Nat) : Int), by rw [w64 (by omega)]; omega, rfl, k + 1, ⟨rfl, rfl, rfl, trivial⟩, ⟨hkn, tW.ext d.tr⟩, by omega⟩
end

theorem imgL_ok {L : List Ln} (h : LOk L) : ∀ r ∈ imgL L, r.1.length = 8 := fun r hr => by
  obtain ⟨l, hl, rfl⟩ := List.mem_map.1 hr
  exact (h l hl).ws.len

theorem putL_sd {L : List Ln} (h : Sd L) (a v : Int) : Sd (putL L a v).2 := by
  have := h.op 0 a v []
  unfold opL at this
  rw [if_pos rfl] at this
  exact this
theorem flushL_sd {L : List Ln} (h : Sd L) (n : Int) : Sd (flushL L n).2 := by
  have := h.op 3 n 0 []
  unfold opL at this
  rw [if_neg (by decide), if_neg (by decide), if_neg (by decide), if_pos rfl] at this
  exact this
theorem storeK_sd {L : List Ln} (h : Sd L) (base : Int) (ws : List Int) : ∀ k, Sd (storeK L base ws k)
  | 0 => h
  | k + 1 => putL_sd (storeK_sd h base ws k) _ _
theorem flushK_sd {L : List Ln} (h : Sd L) (line : Int) : ∀ k, Sd (flushK L line k)
  | 0 => h
  | k + 1 => flushL_sd (flushK_sd h line k) _
theorem fillL_sd {ld : Int → Int × Int} {n : Nat} {L : List Ln} (h : Sd L) (p : Int) (ws : List Int) : Sd (fillL ld n L p ws).2 := by
  unfold fillL
  split
  · exact h
  · split
    · exact h
    · split
      · exact h
      · split
        · exact h
        · exact flushK_sd (storeK_sd h _ _ _) _ _
theorem fillL_len (ld : Int → Int × Int) (n : Nat) (L : List Ln) (p : Int) (ws : List Int) : (fillL ld n L p ws).2.length = L.length := by
  unfold fillL
  split
  · rfl
  · split
    · rfl
    · split
      · rfl
      · split
        · rfl
        · show (flushK _ _ _).length = _
          rw [flushK_len, storeK_len]

set_option maxHeartbeats 4000000 in
set_option maxRecDepth 100000 in
theorem FillLaw_calls (w : World) (hg : Gl w) (ln : Nat) (hln : ln < 256) (os : List OpV) (hos : ∀ o ∈ os, o.Ok) (es : List (Int × Int)) (hes : ∀ e ∈ es, inI64 e.1) {sO sE : Value} (hO : SliZ w sO os.length (ocs os)) (hE : SliZ w sE es.length (ecells es)) (p : Int) (hpi : inI64 p) (ws : List Int) (_hwi : ∀ x ∈ ws, inI64 x) {sW : Value} (hW : SliZ w sW ws.length (i64s ws)) :
    Calls cx.P 7 #[.agg #[.int .u8 (ln : Nat), sO, sE], .int .i64 p, sW] w (Ret fun x w' => x = .bool true ∧ Tr [] w w') := by
  obtain ⟨aO, cO, hsO⟩ := hO.slice
  obtain ⟨aE, cE, hsE⟩ := hE.slice
  obtain ⟨aW, cW, hsW⟩ := hW.slice
  subst hsO; subst hsE; subst hsW
  refine calls_body cx_ok (args := [.agg #[.int .u8 (ln : Nat), .slice aO os.length cO, .slice aE es.length cE], .int .i64 p, .slice aW ws.length cW]) Tryz.func7 rfl 81 rfl rfl [.tmp 6] rfl ?_
  intro b3 w1 n1
  have B3 : Blk w1 b3 [.int .u8 (ln : Nat), .slice aO os.length cO, .slice aE es.length cE] 25 := n1.blk
  refine call (sanity_calls w1 (hg.ext n1.tr)) ?_
  rintro _ w2 ⟨rfl, t2⟩
  have t02 := n1.tr.ext t2
  refine ⟨_, (B3.ext t2).all, rfl, ?_⟩
  refine call (played_calls w2 (hg.ext t02) ln hln os hos es hes (hO.ext t02) (hE.ext t02)) ?_
  rintro x w3 (⟨hno, t3, cs, rfl, hcl, hc1⟩ | ⟨h80, h40, m, v, s, z, sm, span, span', F1, FS, FV, FSV, rfl, hp⟩)
  · intro b8 w4 n4
    have e4 := n4.num; have z4 := n4.size
    refine ⟨_, _, n4.blk, hcl, by show 0 + 11 ≤ 11; decide, hc1, fun w5 u5 => ?_⟩
    exact ⟨rfl, u5.ext ((t02.ext t3).ext n4.tr) (by have := t3.size; have := t02.size; omega)⟩
  · have hn : InL (64 + ln % 40) := by unfold InL; omega
    have hEl := setsE_len (64 + ln % 40) es es.length
    have hEa := setsE_all (64 + ln % 40) es es.length
    have hsd : Sd (opsL (List.replicate (64 + ln % 40) (quiet zeros8)) os os.length) := opsL_sd (LOk.rep _) os _
    have hlen : (opsL (List.replicate (64 + ln % 40) (quiet zeros8)) os os.length).length = 64 + ln % 40 := by rw [opsL_len, List.length_replicate]
    generalize 64 + ln % 40 = n at *
    generalize opsL (List.replicate n (quiet zeros8)) os os.length = L at *
    generalize setsE n es es.length = E at *
    intro b8 w4 n4
    have e4 := n4.num; have z4 := n4.size
    refine ⟨_, _, n4.blk, hcells_len n m v s, by show 0 + 11 ≤ 11; decide, hcells_one n m v s, fun w5 u5 => ?_⟩
    have B8 : Blk w5 b8 (hcells n m v s) 33 := u5.blk
    have t35 : Tr [] w3 w5 := u5.ext n4.tr (by omega)
    have t05 := (t02.ext hp.tr).ext t35
    refine ⟨fun hbig => ⟨rfl, t05⟩, fun hbig => ?_⟩
    have hw140 : ws.length ≤ 140 := by have hb : ¬ (140 : Int) < ((ws.length : Nat) : Int) := hbig; omega
    have hnn : 64 ≤ n ∧ n ≤ 103 := hn
    have hm := hp.mem.ext t35
    have hs := hp.spec.ext t35
    have hg5 := hg.ext t05
    have z05 := t05.size
    have z02 := t02.size
    have z3 := hp.tr.size
    have hge := hp.ge
    have f1 : ∀ c ∈ F1, w2.heap.size ≤ c ∧ c < w3.heap.size := fun c hc => ⟨hge c (.inl hc), hp.mem.lt c hc⟩
    have fS : ∀ c ∈ FS, w2.heap.size ≤ c ∧ c < w3.heap.size := fun c hc => ⟨hge c (.inr (.inl hc)), hp.spec.lt c hc⟩
    have hb81 : b8 ∉ F1 := fun h => by have := f1 b8 h; omega
    have hb8S : b8 ∉ FS := fun h => by have := fS b8 h; omega
    have hW5 : SliZD w5 (.slice aW ws.length cW) ws.length (i64s ws) fun c => c < w.heap.size := (hW.zd (fun h => by rw [← i64s_len]; exact h)).ext t05
    have hv5 := hp.view.rd.ext t35
    have hsv5 := hp.sview.rd.ext t35
    have hsvS : s ∈ FSV := by obtain ⟨_, _, _, _, h⟩ := hp.sview; rw [h]; exact List.mem_cons_self
    have hsF1 : s ∉ F1 := fun h => hp.d3 s h hsvS
    have hsFS : s ∉ FS := fun h => hp.d5 s h hsvS
    refine ⟨_, B8.cell rfl, _, hlay B8, rfl, ?_⟩
    refine call (Fill_calls hm hg5 hv5 (by omega) hEa hn (by omega) p hpi hW5 (fun c hc hm' => by have := f1 c hm'; omega) hw140) ?_
    rintro _ w6 ⟨rfl, G1, hm6, st6⟩
    have t26 := fresh_step (hp.tr.ext t35) (fun c hc => (f1 c hc).1) st6
    have hs6 := hs.tr st6.tr (fun c hc hm' => hp.d1 c hc hm')
    have B86 := B8.tr st6.tr hb81
    have g1 : ∀ c ∈ G1, c ∈ F1 ∨ w5.heap.size ≤ c := fun c hc => st6.sub c hc
    have hsv6 : VMem w6 42 s sm E FSV := (VMem.ext hp.sview t35).tr st6.tr (fun c hc hm' => hp.d3 c hc hm')
    refine ⟨_, B86.cell rfl, _, hlay B86, rfl, ?_⟩
    refine call (Fill11_calls hs6 hsv6.rd hsFS (by omega) hEa hn (by omega) p hpi (hW5.tr st6.tr (fun c hc hd => by have := f1 c hc; omega)) (fun c hc hm' => by have := fS c hm'; omega) hw140) ?_
    rintro _ w7 ⟨rfl, GS, hs7, st7⟩
    have t27 := fresh_step t26.1 (fun c hc => (fS c hc).1) st7
    have gS : ∀ c ∈ GS, c ∈ FS ∨ w6.heap.size ≤ c := fun c hc => st7.sub c hc
    have z56 := st6.tr.size
    have z67 := st7.tr.size
    have hm7 := hm6.tr st7.tr (fun c hc hm' => (g1 c hm').elim (fun h => hp.d1 c h hc) (fun h => by have := fS c hc; have := t35.size; omega))
    have B87 := B86.tr st7.tr hb8S
    have hsv7 := hsv6.tr st7.tr (fun c hc hm' => hp.d5 c hc hm')
    have hdG : ∀ c ∈ G1, c ∉ GS := fun c hc hm' => by
      have l1 := hm6.lt c hc
      rcases gS c hm' with h | h
      · rcases g1 c hc with h2 | h2
        · exact hp.d1 c h2 h
        · have := fS c h; have := t35.size; omega
      · omega
    have hb81' : b8 ∉ G1 := fun h => (g1 b8 h).elim hb81 (fun h => by have := B8.lt; omega)
    have hb8S' : b8 ∉ GS := fun h => (gS b8 h).elim hb8S (fun h => by have := B86.lt; omega)
    have t07 := t02.ext t27.1
    have hg7 := hg.ext t07
    have hsd' := fillL_sd (ld := viewL E (loadL L)) (n := n) hsd p ws
    have hlen' : (fillL (viewL E (loadL L)) n L p ws).2.length = n := by rw [fillL_len, hlen]
    generalize fillL (viewL E (loadL L)) n L p ws = R at *
    generalize hL' : R.2 = L' at *
    have hvw7 := hsv7
    obtain ⟨sl, V7, _, _, hFSV⟩ := hvw7
    have hsG1 : s ∉ G1 := fun h => (g1 s h).elim hsF1 (fun h => by have := t35.size; have := hp.sview.lt s hsvS; omega)
    have hsGS : s ∉ GS := fun h => (gS s h).elim hsFS (fun h => by have := hsv6.lt s hsvS; omega)
    have hS8 := seenL_ok hm7.ok
    refine draw_rule cx_ok [] (Plan.takes [0, 1, 3, 4, 5, 6, 7] (.one true 2 (.one true 8 (.one true 9 (Plan.takes [10] .done))))) (by kernel_rfl) ?_
    intro w8 d8
    refine ⟨_, fun w' t => t.cell (B87.cell rfl) (by simp), _, fun w' t => t.cell (B87.cell rfl) (by simp), _, fun w' t => t.cell (V7.cell rfl) (by simp), ?_⟩
    refine ⟨?_, trivial⟩
    refine call (Seen_gen (hm7.ext d8.tr) (hg7.ext d8.tr)) ?_
    rintro _ w9 ⟨t9, bo, rfl, hbo, Bo⟩
    have t79 := d8.tr.ext t9
    refine ⟨t79, ?_⟩
    refine ⟨?_, trivial⟩
    refine call (Seen04_gen (hs7.ext t79)) ?_
    rintro v10 w10 ⟨t10, hv10⟩
    have t7_10 := t79.ext t10
    refine ⟨t7_10, ?_⟩
    refine ⟨?_, trivial⟩
    refine call (SameSeen_calls (seenL L') hS8 L'.length (seenL_len L') (by omega) (s := .slice (some ⟨bo, 0, none⟩) L'.length L'.length) ⟨_, _, rfl, Nat.le_refl _, .inr ⟨bo, 0, rfl, (Bo.ext t10).all⟩⟩ hv10.sli) ?_
    rintro _ w11 ⟨rfl, t11⟩
    have t7_11 := t7_10.ext t11
    refine ⟨t7_11, ?_⟩
    have t2_11 := t27.1.ext t7_11
    have B811 := B87.ext t7_11
    refine ⟨_, B811.cell rfl, ?_⟩
    refine call (Fence_gen (hm7.ext t7_11) (hg7.ext t7_11) (by omega)) ?_
    rintro _ w12 ⟨H1, hm12, st12⟩
    have t2_12 := fresh_step t2_11 t26.2 st12
    have hs12 := (hs7.ext t7_11).tr st12.tr (fun c hc hm' => hdG c hc hm')
    have B812 := B811.tr st12.tr hb81'
    have V12 := (V7.ext t7_11).tr st12.tr hsG1
    refine ⟨_, B812.cell rfl, _, V12.cell rfl, ?_⟩
    refine call (Fence04_gen hs12 hsd' (by omega)) ?_
    rintro _ w13 ⟨HS, hs13, st13⟩
    have t2_13 := fresh_step t2_12.1 t27.2 st13
    have hh1 : ∀ c ∈ H1, c ∈ G1 ∨ w11.heap.size ≤ c := fun c hc => st12.sub c hc
    have hm13 := hm12.tr st13.tr (fun c hc hm' => (hh1 c hm').elim (fun h => hdG c h hc) (fun h => by have := hs7.lt c hc; have := t7_11.size; omega))
    have B813 := B812.tr st13.tr hb8S'
    have V13 := V12.tr st13.tr hsGS
    have hI := imgL_ok hm13.ok
    refine draw_rule cx_ok [] (Plan.takes [0, 1, 2, 3, 4, 5, 6, 7, 8, 9, 10, 11, 13, 14, 15, 16, 17] (.one true 12 (.one true 18 (.one true 19 (Plan.takes [20, 21] .done))))) (by kernel_rfl) ?_
    intro w14 d14
    refine ⟨fun _ => ?_, fun h => absurd rfl h⟩
    refine ⟨_, fun w' t => t.cell (B813.cell rfl) (by simp), _, fun w' t => t.cell (B813.cell rfl) (by simp), _, fun w' t => t.cell (V13.cell rfl) (by simp), ?_⟩
    refine ⟨?_, trivial⟩
    refine call (Image_gen (hm13.ext d14.tr)) ?_
    rintro _ w15 ⟨t15, bi, rfl, hbi, Bi⟩
    have t13_15 := d14.tr.ext t15
    refine ⟨t13_15, ?_⟩
    refine ⟨?_, trivial⟩
    refine call (Image04_gen (hs13.ext t13_15)) ?_
    rintro v16 w16 ⟨t16, hv16⟩
    have t13_16 := t13_15.ext t16
    refine ⟨t13_16, ?_⟩
    refine ⟨?_, trivial⟩
    have hfl : (fenceL L').length ≤ 1048576 := by rw [fenceL_len]; omega
    refine call (SameImg_calls (imgL (fenceL L')) hI (fenceL L').length (imgL_len _) hfl (s := .slice (some ⟨bi, 0, none⟩) (fenceL L').length (fenceL L').length) ⟨_, _, rfl, Nat.le_refl _, .inr ⟨bi, 0, rfl, (Bi.ext t16).all⟩⟩ hv16.sli) ?_
    rintro _ w17 ⟨rfl, t17⟩
    exact ⟨t13_16.ext t17, rfl, t02.ext (t2_13.1.ext (t13_16.ext t17))⟩

end Go.Proofs.YthepaakejpbppaaGreatDoor

/- A failure of the power: the program's Crash, with any cuts. -/
namespace Go.Proofs.YthepaakejpbppaaGreatDoor
open Go.E

def Ln.clear (l : Ln) : Ln := { l with pend := [], mark := 0 }
theorem Ln.Ok.clear {l : Ln} (h : l.Ok) : l.clear.Ok := ⟨h.ws, h.code, by simp [Ln.clear], by simp [Ln.clear]⟩
theorem clear_none {l : Ln} (h : l.Ok) (hp : l.pend = []) : l.clear = l := by
  have := h.mark
  rw [hp] at this
  have h0 : l.mark = 0 := by simpa using this
  cases l
  simp_all [Ln.clear]

def ccells (cs : List (Int × Int)) : List Value := cs.flatMap fun c => [.int .i64 c.1, .int .i64 c.2]
def cutK (L : List Ln) (cs : List (Int × Int)) : Nat → List Ln
  | 0 => L
  | k + 1 => match cs[k]? with
    | some c => (cutK L cs k).set c.1.toNat ((lnAt (cutK L cs k) c.1.toNat).settle c.2.toNat)
    | none => cutK L cs k
/-- The cut number i is right. -/
def cutOk (L : List Ln) (cs : List (Int × Int)) (i : Nat) (c : Int × Int) : Prop :=
  inB L c.1 ∧ (∀ d, 0 < i → cs[i - 1]? = some d → d.1 < c.1) ∧ 0 ≤ c.2 ∧ c.2 ≤ ((lnAt L c.1.toNat).pend.length : Int)
def cutsOk (L : List Ln) (cs : List (Int × Int)) : Prop := ∀ i c, cs[i]? = some c → cutOk L cs i c
open Classical in
noncomputable def crashL (L : List Ln) (cs : List (Int × Int)) : Int × List Ln :=
  if cutsOk L cs then (0, (cutK L cs cs.length).map Ln.clear) else (1, L)

theorem cutK_len (L : List Ln) (cs : List (Int × Int)) : ∀ k, (cutK L cs k).length = L.length
  | 0 => rfl
  | k + 1 => by
    unfold cutK
    split
    · rw [List.length_set, cutK_len L cs k]
    · exact cutK_len L cs k
theorem crashL_len (L : List Ln) (cs : List (Int × Int)) : (crashL L cs).2.length = L.length := by
  unfold crashL
  split
  · simp [cutK_len]
  · rfl

theorem cuts_lt {L : List Ln} {cs : List (Int × Int)} (h : cutsOk L cs) : ∀ (i j : Nat) (c d : Int × Int), j < i → cs[i]? = some c → cs[j]? = some d → d.1 < c.1
  | 0, j, c, d, hj, _, _ => absurd hj (by omega)
  | i + 1, j, c, d, hj, hi, hd => by
    obtain ⟨e, he⟩ : ∃ e, cs[i]? = some e := ⟨cs[i]'(by have := (List.getElem?_eq_some_iff.1 hi).1; omega), List.getElem?_eq_getElem _⟩
    have h1 := (h (i + 1) c hi).2.1 e (by omega) he
    by_cases hji : j = i
    · subst hji; rw [hd] at he; cases he; exact h1
    · have := cuts_lt h i j e d (by omega) he hd
      omega

theorem cutK_keep {L : List Ln} {cs : List (Int × Int)} (h : cutsOk L cs) (i : Nat) : ∀ k, (∀ j c, j < k → cs[j]? = some c → c.1 ≠ (i : Int)) → lnAt (cutK L cs k) i = lnAt L i
  | 0, _ => rfl
  | k + 1, hne => by
    have ih := cutK_keep h i k fun j c hj => hne j c (by omega)
    unfold cutK
    split
    · rename_i c hc
      have h1 := hne k c (by omega) hc
      have h2 := (h k c hc).1
      unfold lnAt at ih ⊢
      rw [List.getD_eq_getElem?_getD, List.getElem?_set_ne (by have := h2.1; omega), ← List.getD_eq_getElem?_getD]
      exact ih
    · exact ih

section
variable {w : World} {p : Nat} {L : List Ln} {span N : Nat} {F : List Nat}

/-- The loop over the busy lines. -/
structure CI (w : World) (p bl bm it : Nat) (R0 : List (Ln × Value)) (evv : Value) (span nev : Nat) (R : List (Ln × Value)) (left : Int → Prop) (cnt : Nat) (W : World) : Prop where
  mem : MemX W p bl bm R evv span nev
  ir : IR W bm it (busyM R0) left cnt
  step : Step w W (foot p bl bm R0 evv) (foot p bl bm R evv)
  len : R.length = R0.length
  rel : ∀ i r0, R0[i]? = some r0 → ∃ r, R[i]? = some r ∧ (left ((i : Nat) : Int) → r = r0) ∧ (¬ left ((i : Nat) : Int) → r.1 = r0.1.clear)

theorem line_clear {R : List (Ln × Value)} (hL : ∀ r ∈ R, (lcells r).length = 11) {i : Nat} {r : Ln × Value} (hr : R[i]? = some r) (h8 : r.1.ws.length = 8) :
    ((R.flatMap lcells).set (i * 11 + 9) nilv).set (i * 11 + 10) (.int .i64 0) = (R.set i (r.1.clear, nilv)).flatMap lcells := by
  have s1 := line_set hL hr (j := 9) (r' := (r.1, nilv)) (v := nilv) (by decide) (lcells_tail (r := r) (r' := (r.1, nilv)) rfl h8 1 nilv rfl (by decide))
  rw [s1]
  have hi := (List.getElem?_eq_some_iff.1 hr).1
  have hL2 : ∀ q ∈ R.set i (r.1, nilv), (lcells q).length = 11 := fun q hq => by
    rcases List.mem_or_eq_of_mem_set hq with h | rfl
    · exact hL q h
    · simp [lcells, wcells, h8]
  have s2 := line_set hL2 (i := i) (r := (r.1, nilv)) (by simp [hi]) (j := 10) (r' := (r.1.clear, nilv)) (v := .int .i64 0) (by decide) (lcells_tail (r := (r.1, nilv)) (r' := (r.1.clear, nilv)) rfl h8 2 (.int .i64 0) rfl (by decide))
  rw [s2, List.set_set]

set_option maxHeartbeats 4000000 in
theorem Crash_gen (h : IMem w p L span N F) (hg : Gl w) (hN : N < 549755813888) {s : Value} {cs : List (Int × Int)} (hci : ∀ c ∈ cs, inI64 c.1 ∧ inI64 c.2) (hcl : cs.length ≤ 1048576) {D : Nat → Prop} (hs : SliZD w s cs.length (ccells cs) D) (hD : ∀ c, D c → c ∉ F) :
    Calls cx.P 41 #[.pointer (some ⟨p, 0, none⟩), s] w
      (Ret fun x w' => x = .int .i64 (crashL L cs).1 ∧ ∃ span' F', IMem w' p (crashL L cs).2 span' N F' ∧ Step w w' F F') := by
  obtain ⟨ac, cc, rfl⟩ := hs.slice
  have h' := h
  obtain ⟨bl, bm, rows, evv, nev, hm, h2, h3, h4, hF⟩ := h'
  have hsmall := h.small
  have hrl : rows.length = L.length := by rw [← h2, List.length_map]
  refine calls_body cx_ok (args := [.pointer (some ⟨p, 0, none⟩), .slice ac cs.length cc]) Tryz.func41 rfl 104 rfl rfl [.tmp 4] rfl ?_
  refine loop_rule cx_ok (fun (k : Nat) W => (k ≤ cs.length ∧ ∀ i c, i < k → cs[i]? = some c → cutOk L cs i c) ∧ Tr [] w W) (fun k : Nat => [(0, .pointer (some ⟨p, 0, none⟩)), (1, .slice ac cs.length cc), (10, .slice ac cs.length cc), (11, .int .i64 cs.length), (12, .int .i64 k)]) (fun k => cs.length - k) 0
    ⟨rfl, rfl, rfl, rfl, rfl, trivial⟩ ⟨⟨by omega, fun i c hi => by omega⟩, Tr.refl _ _⟩ ?_
  rintro k W ⟨⟨hk, hok⟩, tW⟩
  have bad : ∀ (W' : World) (c : Int × Int), Tr [] w W' → cs[k]? = some c → ¬ cutOk L cs k c → (Value.int .i64 1 = .int .i64 (crashL L cs).1 ∧ ∃ span' F', IMem W' p (crashL L cs).2 span' N F' ∧ Step w W' F F') := fun W' c t hc hn => by
    have : ¬ cutsOk L cs := fun h => hn (h k c hc)
    unfold crashL
    rw [if_neg this]
    exact ⟨rfl, span, F, h.ext t, t.of_ext, fun b hb => .inl hb⟩
  refine ⟨fun hlt => ?_, fun hge => ?_⟩
  · have hkl : k < cs.length := by omega
    obtain ⟨c, hc⟩ : ∃ c, cs[k]? = some c := ⟨_, List.getElem?_eq_getElem hkl⟩
    obtain ⟨hc1, hc2⟩ := hci c (List.mem_of_getElem? hc)
    obtain ⟨g, o, hax, _, _, hcs⟩ := (hs.ext tW).head (by omega)
    subst hax
    have hcc : Cells W g (o + k * 2) [.int .i64 c.1, .int .i64 c.2] := fun j v hv => by
      rw [Nat.add_assoc]
      exact hcs _ _ (fm_get (k := 2) (fun _ _ => rfl) hc hv)
    refine ⟨k, rfl, hkl, _, hcc, rfl, fun b6 w6 n6 => ?_⟩
    have e6 := n6.num; have z6 := n6.size
    refine ⟨_, _, n6.blk, rfl, by show 0 + 2 ≤ 2; decide, rfl, fun w7 u7 => ?_⟩
    have B7 : Blk w7 b6 [.int .i64 c.1, .int .i64 c.2] 144 := u7.blk
    have tW7 : Tr [] W w7 := u7.ext n6.tr (by omega)
    have t7 := tW.ext tW7
    have hcs7 := hcs.ext tW7
    have next : ∀ W', Tr [] w W' → cutOk L cs k c → ((k + 1 ≤ cs.length ∧ ∀ i c, i < k + 1 → cs[i]? = some c → cutOk L cs i c) ∧ Tr [] w W') := fun W' t hc' => ⟨⟨hkl, fun i d hi hd => by
      by_cases hik : i = k
      · subst hik; rw [hc] at hd; cases hd; exact hc'
      · exact hok i d (by omega) hd⟩, t⟩
    refine draw_rule cx_ok [] (Plan.takes [0, 1, 2] (.one true 3 (Plan.takes [4, 5, 6, 7, 8, 9, 10, 11, 12, 13, 14, 15, 16, 17, 18, 19, 20, 21, 22, 23, 24, 25, 26, 27, 28, 29, 30, 31, 32, 33, 34, 35, 36, 37, 38, 39] .done))) (by kernel_rfl) ?_
    intro w8 d8
    refine ⟨_, fun w' t => t.cell (B7.cell rfl) (by simp), ?_⟩
    refine ⟨?_, trivial⟩
    have t8 := t7.ext d8.tr
    refine call ((h.ext t8).has c.1) ?_
    rintro _ _ ⟨rfl, rfl⟩
    refine ⟨d8.tr, ?_⟩
    by_cases hin : inB L c.1
    rotate_left
    · rw [decide_eq_false hin]
      exact bad _ c t8 hc fun h => hin h.1
    rw [decide_eq_true hin]
    have hin' := hin
    obtain ⟨hi0, hi1⟩ := hin'
    have hiL : c.1.toNat < L.length := by omega
    obtain ⟨vv, hr⟩ := row_at h2 hiL
    have hir : c.1.toNat < rows.length := (List.getElem?_eq_some_iff.1 hr).1
    obtain ⟨a, cp, hvv⟩ := Row.slice (hm.pend _ (List.mem_of_getElem? hr))
    have hvv : vv = .slice a (lnAt L c.1.toNat).pend.length cp := hvv
    have hpc := hm.pcell hr
    rw [hvv] at hpc
    have hpc8 := t8.cell hpc (by simp)
    have hm8 := hm.ext t8
    have tail : (0 < k → ∀ d, cs[k - 1]? = some d → d.1 < c.1) → cutOk L cs k c ∨ c.2 < 0 ∨ ((lnAt L c.1.toNat).pend.length : Int) < c.2 := fun h1 => by
      by_cases h5 : 0 ≤ c.2 ∧ c.2 ≤ ((lnAt L c.1.toNat).pend.length : Int)
      · exact .inl ⟨hin, fun d h0 hd => h1 h0 d hd, h5.1, h5.2⟩
      · exact .inr (by omega)
    refine ⟨fun hk0 => ?_, fun hk0 => ?_⟩
    · have hk0' : (0 : Int) < ((k : Nat) : Int) := hk0
      obtain ⟨d, hd⟩ : ∃ d, cs[k - 1]? = some d := ⟨_, List.getElem?_eq_getElem (by omega)⟩
      have hcd : Cells w7 g (o + (k - 1) * 2) [.int .i64 d.1, .int .i64 d.2] := fun j v hv => by
        rw [Nat.add_assoc]
        exact hcs7 _ _ (fm_get (k := 2) (fun _ _ => rfl) hd hv)
      refine ⟨_, fun w' t => t.cell (B7.cell rfl) (by simp), ((k - 1 : Nat) : Int), by rw [w64 (by omega)]; omega, k - 1, rfl, by omega, _, fun w' t => t.cell (hcd 0 _ rfl) (by simp), fun hle => ?_, fun hgt => ?_⟩
      · exact bad _ c t8 hc fun h => by have := h.2.1 d (by omega) hd; omega
      · have h1 : 0 < k → ∀ d, cs[k - 1]? = some d → d.1 < c.1 := fun _ d' hd' => by rw [hd] at hd'; cases hd'; omega
        refine ⟨_, fun w' t => t.cell (B7.cell rfl) (by simp), fun hneg => ?_, fun hnn => ?_⟩
        · exact bad _ c t8 hc fun h => by have := h.2.2.1; omega
        · refine ⟨_, fun w' t => t.cell (B7.cell rfl) (by simp), _, fun w' t => t.cell ((hm.ext t7).head.cell rfl) (by simp), _, fun w' t => t.cell (B7.cell rfl) (by simp), c.1.toNat, by omega, hir, _, fun w' t => t.cell (t7.cell hpc (by simp)) (by simp), fun hbig => ?_, fun hsm => ?_⟩
          · exact bad _ c t8 hc fun h => by have := h.2.2.2; omega
          · rcases tail h1 with h | h | h
            · exact ⟨((k + 1 : Nat) : Int), by rw [w64 (by omega)]; omega, rfl, k + 1, ⟨rfl, rfl, rfl, rfl, rfl, trivial⟩, next _ t8 h, by omega⟩
            · exact absurd h hnn
            · exact absurd h hsm
    · have h1 : 0 < k → ∀ d, cs[k - 1]? = some d → d.1 < c.1 := fun h0 => absurd (show (0 : Int) < ((k : Nat) : Int) by omega) hk0
      refine ⟨_, fun w' t => t.cell (B7.cell rfl) (by simp), fun hneg => ?_, fun hnn => ?_⟩
      · exact bad _ c t8 hc fun h => by have := h.2.2.1; omega
      · refine ⟨_, fun w' t => t.cell (B7.cell rfl) (by simp), _, fun w' t => t.cell ((hm.ext t7).head.cell rfl) (by simp), _, fun w' t => t.cell (B7.cell rfl) (by simp), c.1.toNat, by omega, hir, _, fun w' t => t.cell (t7.cell hpc (by simp)) (by simp), fun hbig => ?_, fun hsm => ?_⟩
        · exact bad _ c t8 hc fun h => by have := h.2.2.2; omega
        · rcases tail h1 with h | h | h
          · exact ⟨((k + 1 : Nat) : Int), by rw [w64 (by omega)]; omega, rfl, k + 1, ⟨rfl, rfl, rfl, rfl, rfl, trivial⟩, next _ t8 h, by omega⟩
          · exact absurd h hnn
          · exact absurd h hsm
  · have hkl : k = cs.length := by omega
    have hco : cutsOk L cs := fun i c hc => hok i c (by have := (List.getElem?_eq_some_iff.1 hc).1; omega) hc
    unfold crashL
    rw [if_pos hco]
    subst hF
    refine loop_rule cx_ok (fun (k : Nat) W => k ≤ cs.length ∧ ∃ R, MemW W p bl bm R evv span nev ∧ R.map (·.1) = cutK L cs k ∧ Step w W (foot p bl bm rows evv) (foot p bl bm R evv) ∧ ∀ l ∈ cutK L cs k, l.pend.length ≤ N) (fun k : Nat => [(0, .pointer (some ⟨p, 0, none⟩)), (58, .slice ac cs.length cc), (59, .int .i64 cs.length), (60, .int .i64 k)]) (fun k => cs.length - k) 0
      ⟨rfl, rfl, rfl, rfl, trivial⟩ ⟨by omega, rows, hm.ext tW, h2, ⟨tW.of_ext, fun b hb => .inl hb⟩, h4⟩ ?_
    clear tW hge hk hok bad hkl k W
    rintro k W ⟨hk, R, mW, hR, sW, hp4⟩
    have zW := sW.tr.size
    refine ⟨fun hlt => ?_, fun hge => ?_⟩
    · have hkl : k < cs.length := by omega
      obtain ⟨c, hc⟩ : ∃ c, cs[k]? = some c := ⟨_, List.getElem?_eq_getElem hkl⟩
      obtain ⟨hin, _, hc20, hc2⟩ := hco k c hc
      obtain ⟨g, o, hax, _, _, hcs⟩ := (hs.tr sW.tr (fun b hb hd => hD b hd hb)).head (by omega)
      subst hax
      have hcc : Cells W g (o + k * 2) [.int .i64 c.1, .int .i64 c.2] := fun j v hv => by
        rw [Nat.add_assoc]
        exact hcs _ _ (fm_get (k := 2) (fun _ _ => rfl) hc hv)
      have hkeep : lnAt (cutK L cs k) c.1.toNat = lnAt L c.1.toNat := cutK_keep hco _ k fun j d hj hd => by
        have := cuts_lt hco k j c d hj hc hd
        have := hin.1
        omega
      have hstep : cutK L cs (k + 1) = (cutK L cs k).set c.1.toNat ((lnAt (cutK L cs k) c.1.toNat).settle c.2.toNat) := by
        conv => lhs; unfold cutK
        rw [hc]
      obtain ⟨i, hi⟩ : ∃ i : Nat, c.1 = (i : Int) := ⟨c.1.toNat, by have := hin.1; omega⟩
      obtain ⟨q, hq⟩ : ∃ q : Nat, c.2 = (q : Int) := ⟨c.2.toNat, by omega⟩
      rw [hi, hq] at hcc hstep
      rw [hi, Int.toNat_natCast] at hkeep hc2
      rw [Int.toNat_natCast, Int.toNat_natCast] at hstep
      have hiL : i < (cutK L cs k).length := by rw [cutK_len]; have := hin.2; omega
      obtain ⟨vv, hr⟩ := row_at hR hiL
      have hir : i < R.length := (List.getElem?_eq_some_iff.1 hr).1
      have hqp : q ≤ (lnAt (cutK L cs k) i).pend.length := by rw [hkeep]; omega
      have hpl := hp4 _ (lnAt_mem hiL)
      refine ⟨k, rfl, hkl, _, hcc, rfl, fun b8 w6 n6 => ?_⟩
      have e6 := n6.num; have z6 := n6.size
      refine ⟨_, _, n6.blk, rfl, by show 0 + 2 ≤ 2; decide, rfl, fun w7 u7 => ?_⟩
      have B7 : Blk w7 b8 [.int .i64 (i : Nat), .int .i64 (q : Nat)] 144 := u7.blk
      have tW7 : Tr [] W w7 := u7.ext n6.tr (by omega)
      have m7 := mW.ext tW7
      have s7 := sW.ext tW7
      refine ⟨_, B7.cell rfl, _, B7.cell rfl, ?_⟩
      by_cases hq0 : q = 0
      · subst hq0
        refine call (settle0_calls m7.toMemX i hir) ?_
        rintro _ _ rfl
        have hse : cutK L cs (k + 1) = cutK L cs k := by
          rw [hstep]
          have : (lnAt (cutK L cs k) i).settle 0 = lnAt (cutK L cs k) i := by unfold Ln.settle; rw [if_pos rfl]
          rw [this]
          exact List.ext_getElem? fun j => by
            rw [List.getElem?_set]
            by_cases hij : i = j
            · subst hij; rw [if_pos rfl, if_pos hiL, lnAt_get hiL]
            · rw [if_neg hij]
        exact ⟨((k + 1 : Nat) : Int), by rw [w64 (by omega)]; omega, rfl, k + 1, ⟨rfl, rfl, rfl, rfl, trivial⟩, ⟨hkl, R, m7, by rw [hse]; exact hR, s7, by rw [hse]; exact hp4⟩, by omega⟩
      · have hset := settle_calls m7.toMemX (h.gl hg s7) i q hr hqp hq0 (by show (lnAt (cutK L cs k) i).pend.length ≤ _; omega) (rest_im (bl := bl) (bm := bm) (m := busyM R) m7.ne.2.2) m7.busy
        refine call hset ?_
        rintro _ w8 ⟨v', m8, hb8, t8, hf8⟩
        have hfs := foot_set m7.nodup m7.foot_lt (r' := ((lnAt (cutK L cs k) i).settle q, v')) hr (fun b hb => .inr (hf8 b hb))
        have mw8 : MemW w8 p bl bm (R.set i ((lnAt (cutK L cs k) i).settle q, v')) evv span nev := ⟨m8, by rw [evict_busy hir hq0]; exact hb8⟩
        have hs8 : Step w7 w8 (foot p bl bm R evv) (foot p bl bm (R.set i ((lnAt (cutK L cs k) i).settle q, v')) evv) := ⟨t8.mono fun b hb _ => (show b = bl ∨ b = bm by simpa using hb).elim (fun e => e ▸ in_bl) (fun e => e ▸ in_bm), hfs.2⟩
        refine ⟨((k + 1 : Nat) : Int), by rw [w64 (by omega)]; omega, rfl, k + 1, ⟨rfl, rfl, rfl, rfl, trivial⟩, ⟨hkl, _, mw8, by rw [hstep, List.map_set, hR], s7.trans hs8, fun l hl => ?_⟩, by omega⟩
        rw [hstep] at hl
        rcases List.mem_or_eq_of_mem_set hl with hl | rfl
        · exact hp4 l hl
        · have := settle_pend (lnAt (cutK L cs k) i) q; omega
    obtain rfl : k = cs.length := by omega
    clear hge hk
    obtain ⟨n1, n2, n3⟩ := mW.ne
    refine ⟨_, mW.head.cell rfl, ?_⟩
    refine map_range cx_ok (x := ⟨1, 8, false, [.map none], .map 3 4⟩) rfl rfl mW.busy fun it o w1 cnt n1' hir => ?_
    have e1 := n1'.num; have z1 := n1'.size
    have hlt := mW.foot_lt
    have hitbl : it ≠ bl := by have := hlt bl in_bl; omega
    have hitp : it ≠ p := by have := hlt p in_p; omega
    have hitbm : it ≠ bm := by have := mW.bmlt; omega
    refine loop_rule cx_ok (fun (x : List (Ln × Value) × (Int → Prop) × Nat) U => CI W p bl bm it R evv span nev x.1 x.2.1 x.2.2 U ∧ it < U.heap.size ∧ it ∉ foot p bl bm x.1 evv) (fun _ => [(0, .pointer (some ⟨p, 0, none⟩)), (75, .pointer (some ⟨it, 0, none⟩))]) (fun x => x.2.2) (R, (fun k => busyM R k ≠ none), cnt) ⟨rfl, rfl, trivial⟩
      ⟨⟨mW.toMemX.ext n1'.tr, hir, ⟨n1'.tr.of_ext, fun b hb => .inl hb⟩, rfl, fun i r0 hr0 => ⟨r0, hr0, fun _ => rfl, fun hl => ?_⟩⟩, by omega, fun hm' => by have := hlt it hm'; omega⟩ ?_
    · have hp : r0.1.pend = [] := Decidable.byContradiction fun hp => hl ((busy_iff hr0).2 hp)
      exact (clear_none (mW.ok r0 (List.mem_of_getElem? hr0)) hp).symm
    rintro ⟨Q, left, cnt⟩ U ⟨⟨hmU, hiU, hsU, hlenU, hrelU⟩, hitU, hitF⟩
    dsimp only at hmU hiU hsU hlenU hrelU hitF
    refine map_next hiU (fun hdone => ?_) (fun k v W1 cnt' hk hmk hcnt t1 hi1 hent => ?_)
    · -- the end
      have hmap : Q.map (·.1) = (cutK L cs cs.length).map Ln.clear := by
        rw [← hR, List.map_map]
        apply List.ext_getElem?
        intro i
        simp only [List.getElem?_map]
        cases hr0 : R[i]? with
        | none =>
          have hge : R.length ≤ i := by rw [List.getElem?_eq_none_iff] at hr0; exact hr0
          have : Q[i]? = none := by rw [List.getElem?_eq_none_iff]; omega
          rw [this]; rfl
        | some r0 =>
          obtain ⟨r, hr, _, hr2⟩ := hrelU i r0 hr0
          rw [hr]
          simp only [Option.map_some, hr2 (hdone _)]
          rfl
      have hpe : ∀ r ∈ Q, r.1.pend = [] := fun r hr => by
        have : r.1 ∈ Q.map (·.1) := List.mem_map.2 ⟨r, hr, rfl⟩
        rw [hmap] at this
        obtain ⟨l, _, hl⟩ := List.mem_map.1 this
        rw [← hl]; rfl
      have hnb : ∀ k, busyM Q k = none := busy_none hpe
      refine ⟨_, hmU.head.cell rfl, ?_⟩
      refine map_clear cx_ok (x := ⟨1, 8, false, [.map none], .map 3 4⟩) rfl rfl rfl hiU.im fun o2 w2 u2 hm2 => ?_
      have z2 := u2.size
      have H2 : Blk w2 p [.slice (some ⟨bl, 0, none⟩) Q.length Q.length, .map (some bm), .int .i64 (span : Nat), evv] 120 := hmU.head.tr u2.tr (by simp; exact n2)
      refine ⟨_, _, H2, by show 2 < 4; decide, rfl, fun w3 u3 => ?_⟩
      refine ⟨_, _, u3.blk, by show 3 < 4; decide, rfl, fun w4 u4 => ?_⟩
      have t4 : Tr [bm, p] U w4 := (u2.tr.trans (u3.tr.same u4.tr) (S'' := [bm, p]) (fun b hb => by simp at hb; simp [hb]) (fun b hb _ => by simp at hb; simp [hb]))
      have hfoot := foot_ev hmU.nodup hmU.foot_lt (evv' := .slice none 0 0) (fun b hb => by simp [Value.ownBlock] at hb)
      refine ⟨rfl, 0, foot p bl bm Q (.slice none 0 0), ⟨bl, bm, Q, .slice none 0 0, 0, ⟨⟨u4.blk, ?_, fun r hr => Row.tr (hmU.pend r hr) t4 fun b hb hmem => ?_, ⟨[], World.ownsRow_nil _ _ _ _⟩, hmU.ok, hfoot.1, fun b hb => ?_, hmU.small, Nat.lt_of_lt_of_le hmU.bmlt t4.size⟩, ?_⟩, hmap, Nat.zero_le _, fun l hl => ?_, rfl⟩, sW.trans (hsU.trans ⟨t4.mono fun b hb _ => (show b = bm ∨ b = p by simpa using hb).elim (fun e => e ▸ in_bm) (fun e => e ▸ in_p), hfoot.2⟩)⟩
      · exact hmU.lines.tr t4 (by simp; exact ⟨n3, fun e => n1 e.symm⟩)
      · obtain ⟨i, hi⟩ := List.mem_iff_getElem?.1 hr
        have := hmU.row_ne hi hb
        simp at hmem
        rcases hmem with e | e
        · exact this.2.2.1 e
        · exact this.1 e
      · rcases hfoot.2 b hb with hb | hb
        · exact hmU.ge b hb
        · have := hmU.ge p in_p
          have := hmU.foot_lt p in_p
          omega
      · exact ((hm2.tr (u3.tr.same u4.tr) (by simp; exact fun e => n2 e.symm))).congr fun k => (hnb k).symm
      · obtain ⟨l', _, rfl⟩ := List.mem_map.1 hl
        exact Nat.zero_le _
    · -- a round
      obtain ⟨i, r0, rfl, hr0, hp⟩ := busy_some hmk
      obtain ⟨r, hr, hrr, _⟩ := hrelU i r0 hr0
      obtain rfl := hrr hk
      have hiQ : i < Q.length := (List.getElem?_eq_some_iff.1 hr).1
      have hok := hmU.ok r (List.mem_of_getElem? hr)
      have hmU1 : MemX W1 p bl bm Q evv span nev := hmU.tr t1 fun b hb => by simp at hb; subst hb; exact hitF
      have hsU1 : Step W W1 (foot p bl bm R evv) (foot p bl bm Q evv) := ⟨hsU.tr.trans t1 (fun _ h => h) fun b hb hlt' => by simp at hb; omega, hsU.sub⟩
      refine ⟨_, _, hent, ?_⟩
      have hlens := hmU1.lens
      have hfl := fm_len hlens
      refine draw_rule cx_ok [bl] (Plan.takes [0, 1, 2, 3, 4, 5, 6, 7, 8, 9, 10, 11] (.one true 12 (Plan.takes [13, 14] (.one true 15 .done)))) (by kernel_rfl) ?_
      intro W2 d2
      have m2 := hmU1.ext d2.tr
      refine ⟨_, fun w' t => t.cell (hmU1.head.cell rfl) (by simp; exact n1), _, fun w' t => t.cell (hmU1.head.cell rfl) (by simp; exact n1), i, rfl, hiQ, ?_⟩
      refine ⟨⟨_, _, m2.lines, by rw [hfl]; show 0 + i * 11 + 9 < _; omega, rfl, fun W3 u3 => ?_⟩, trivial⟩
      have q3 : Tr [bl] W1 W3 := d2.tr.of_ext.trans u3.tr (fun _ h => h) (fun _ h _ => h)
      refine ⟨q3, i, rfl, hiQ, ?_⟩
      refine ⟨⟨_, _, u3.blk, by rw [List.length_set, hfl]; show 0 + i * 11 + 10 < _; omega, rfl, fun W4 u4 => ?_⟩, trivial⟩
      have q4 : Tr [bl] W1 W4 := q3.same u4.tr
      refine ⟨q4, ?_⟩
      have hbl : Blk W4 bl ((Q.set i (r.1.clear, nilv)).flatMap lcells) 115 := by
        rw [← line_clear hlens hr hok.ws.len]
        have hb := u4.blk
        rw [show 0 + i * 11 = i * 11 by omega] at hb
        exact hb
      obtain ⟨m4, f4⟩ := hmU1.set (r' := (r.1.clear, nilv)) hr q4 (fun b hb => .inl (by simpa using hb)) hbl (World.ownsRow_nil _ _ _ _) hok.clear (fun b hb => by simp [nilv, Value.ownBlock] at hb)
      have hit1 : it < W1.heap.size := Nat.lt_of_lt_of_le hitU t1.size
      refine ⟨rfl, (Q.set i (r.1.clear, nilv), (fun j => left j ∧ j ≠ (i : Nat)), cnt'), ⟨rfl, rfl, trivial⟩, ⟨⟨m4, hi1.tr q4 (by simp; exact fun e => n3 e.symm) (by simp; exact hitbl), hsU1.trans ⟨q4.mono fun b hb _ => (show b = bl by simpa using hb) ▸ in_bl, f4⟩, by simpa using hlenU, fun j rj hj => ?_⟩, Nat.lt_of_lt_of_le hit1 q4.size, fun hm' => (f4 it hm').elim hitF (fun h => by omega)⟩, hcnt⟩
      by_cases hji : j = i
      · subst hji
        rw [hr0] at hj
        cases hj
        exact ⟨(r.1.clear, nilv), by simp [hiQ], fun hl => absurd rfl hl.2, fun _ => rfl⟩
      · obtain ⟨rr, h1, h2', h3'⟩ := hrelU j rj hj
        refine ⟨rr, by rw [List.getElem?_set, if_neg (fun e => hji e.symm)]; exact h1, fun hl => h2' hl.1, fun hl => h3' fun hl' => hl ⟨hl', fun e => hji (by exact_mod_cast e)⟩⟩

end

end Go.Proofs.YthepaakejpbppaaGreatDoor

/- Plain law of ClassFillKeeps: what Fill stores is there after a fence and a failure of the power. -/
namespace Go.Proofs.YthepaakejpbppaaGreatDoor
open Go.E

/-! What a line shows -/

theorem fix_some {l : Ln} (h : ¬ rotten l) : ∃ r, fix l.ws l.code = some r := by
  cases hf : fix l.ws l.code with
  | none => exact absurd (chk_fix_none.1 hf) h
  | some r => exact ⟨r, rfl⟩

theorem showL_eq {l : Ln} {r : List Nat × Nat} (h : fix l.ws l.code = some r) : showL l = lay r.1 l.pend ∧ l.shows l.pend.length = some (lay r.1 l.pend) := by
  have : l.shows l.pend.length = some (lay r.1 l.pend) := by unfold Ln.shows; rw [h, List.take_length]; rfl
  exact ⟨by unfold showL Ln.shown; rw [this]; rfl, this⟩

theorem showL_put {l : Ln} (h : ¬ rotten l) (j v : Nat) : showL (l.put j v) = (showL l).set j v := by
  obtain ⟨r, hr⟩ := fix_some h
  rw [(showL_eq hr).1, (showL_eq (l := l.put j v) (r := r) hr).1]
  exact lay_snoc _ _ _

theorem showL_flush (l : Ln) : showL l.flush = showL l := rfl

theorem load_show {L : List Ln} {a : Int} (ha : 0 ≤ a ∧ a < 8 * L.length) (hr : ¬ rotten (lnAt L (a.toNat / 8))) : loadL L a = ((((showL (lnAt L (a.toNat / 8))).getD (a.toNat % 8) 0 : Nat) : Int), 0) := by
  obtain ⟨r, hf⟩ := fix_some hr
  obtain ⟨h1, h2⟩ := showL_eq hf
  unfold loadL
  rw [if_neg (fun h => h ha), h2, h1]

theorem load_err {L : List Ln} {a : Int} (ha : 0 ≤ a ∧ a < 8 * L.length) : (loadL L a).2 = 0 ∨ (loadL L a).2 = 9 := by
  unfold loadL
  rw [if_neg (fun h => h ha)]
  split
  · exact .inl rfl
  · exact .inr rfl

/-! Words by their addresses -/

def val (S : List (List Nat)) (x : Nat) : Nat := (S.getD (x / 8) []).getD (x % 8) 0
def modS (S : List (List Nat)) (base : Nat) (ws : List Int) : Nat → List (List Nat)
  | 0 => S
  | k + 1 => (modS S base ws k).set ((base + k) / 8) (((modS S base ws k).getD ((base + k) / 8) []).set ((base + k) % 8) (ws.getD k 0).toNat)
def Rows8 (S : List (List Nat)) : Prop := ∀ s ∈ S, s.length = 8

theorem rows_at {S : List (List Nat)} (h : Rows8 S) {i : Nat} (hi : i < S.length) : (S.getD i []).length = 8 := by
  rw [List.getD_eq_getElem?_getD, List.getElem?_eq_getElem hi]
  exact h _ (List.getElem_mem hi)
theorem modS_rows {S : List (List Nat)} (h : Rows8 S) (base : Nat) (ws : List Int) : ∀ k, base + k ≤ 8 * S.length → Rows8 (modS S base ws k) ∧ (modS S base ws k).length = S.length
  | 0, _ => ⟨h, rfl⟩
  | k + 1, hk => by
    obtain ⟨h1, h2⟩ := modS_rows h base ws k (by omega)
    refine ⟨fun s hs => ?_, by show (List.set _ _ _).length = _; rw [List.length_set, h2]⟩
    rcases List.mem_or_eq_of_mem_set hs with hs | rfl
    · exact h1 s hs
    · rw [List.length_set]
      exact rows_at h1 (by omega)

theorem getD_self {α : Type} {l : List α} {i : Nat} (h : i < l.length) (a d : α) : (l.set i a).getD i d = a := by
  rw [List.getD_eq_getElem?_getD, List.getElem?_set_self h]; rfl
theorem getD_ne {α : Type} {l : List α} {i j : Nat} (h : i ≠ j) (a d : α) : (l.set i a).getD j d = l.getD j d := by
  rw [List.getD_eq_getElem?_getD, List.getElem?_set_ne h, ← List.getD_eq_getElem?_getD]

theorem val_set {S : List (List Nat)} (h : Rows8 S) {a : Nat} (ha : a / 8 < S.length) (v x : Nat) : val (S.set (a / 8) ((S.getD (a / 8) []).set (a % 8) v)) x = if x = a then v else val S x := by
  unfold val
  by_cases hx : x / 8 = a / 8
  · rw [hx, getD_self ha]
    have hl := rows_at h ha
    generalize S.getD (a / 8) [] = s at *
    by_cases hm : x % 8 = a % 8
    · rw [if_pos (by omega), hm, getD_self (by omega)]
    · rw [if_neg (by omega), getD_ne (fun e => hm e.symm)]
  · rw [if_neg (by omega), getD_ne (fun e => hx e.symm)]

theorem modS_val {S : List (List Nat)} (h : Rows8 S) (base : Nat) (ws : List Int) (x : Nat) : ∀ k, base + k ≤ 8 * S.length → val (modS S base ws k) x = if base ≤ x ∧ x < base + k then (ws.getD (x - base) 0).toNat else val S x
  | 0, _ => by rw [if_neg (by omega)]; rfl
  | k + 1, hk => by
    obtain ⟨h1, h2⟩ := modS_rows h base ws k (by omega)
    have ih := modS_val h base ws x k (by omega)
    show val (List.set _ _ _) x = _
    rw [val_set h1 (by omega), ih]
    by_cases hx : x = base + k
    · rw [if_pos hx, if_pos (by omega), hx, Nat.add_sub_cancel_left]
    · rw [if_neg hx]
      by_cases hr : base ≤ x ∧ x < base + k
      · rw [if_pos hr, if_pos (by omega)]
      · rw [if_neg hr, if_neg (by omega)]

/-! Stores -/

theorem seen_at {L : List Ln} {i : Nat} (hi : i < L.length) : (seenL L).getD i [] = showL (lnAt L i) := by
  unfold seenL
  rw [List.getD_eq_getElem?_getD, List.getElem?_map, lnAt_get hi]; rfl

/-- From L to L' the lines hold the same. -/
def Hold (L L' : List Ln) : Prop := L'.length = L.length ∧ ∀ i, (lnAt L' i).ws = (lnAt L i).ws ∧ (lnAt L' i).code = (lnAt L i).code
theorem Hold.refl (L : List Ln) : Hold L L := ⟨rfl, fun _ => ⟨rfl, rfl⟩⟩
theorem Hold.trans {L L1 L2 : List Ln} (h : Hold L L1) (h' : Hold L1 L2) : Hold L L2 := ⟨h'.1.trans h.1, fun i => ⟨(h'.2 i).1.trans (h.2 i).1, (h'.2 i).2.trans (h.2 i).2⟩⟩
theorem Hold.rot {L L' : List Ln} (h : Hold L L') (i : Nat) : rotten (lnAt L' i) ↔ rotten (lnAt L i) := by unfold rotten; rw [(h.2 i).1, (h.2 i).2]
theorem Hold.set {L : List Ln} {i : Nat} {l : Ln} (hi : i < L.length) (h1 : l.ws = (lnAt L i).ws) (h2 : l.code = (lnAt L i).code) : Hold L (L.set i l) := ⟨by simp, fun j => by
  rw [lnAt_set hi]
  by_cases h : j = i
  · subst h; rw [if_pos rfl]; exact ⟨h1, h2⟩
  · rw [if_neg h]; exact ⟨rfl, rfl⟩⟩

theorem put_ok {L : List Ln} {a : Nat} {v : Int} (ha : a < 8 * L.length) (hv : wordI v = true) (hr : ¬ rotten (lnAt L (a / 8))) : putL L (a : Nat) v = (0, L.set (a / 8) ((lnAt L (a / 8)).put (a % 8) v.toNat)) := by
  unfold putL
  rw [if_neg (fun h => h ⟨by omega, by omega⟩), if_neg (by rw [hv]; decide)]
  simp only [Int.toNat_natCast]
  rw [if_neg hr]

theorem seen_set {L : List Ln} {i : Nat} (l : Ln) : seenL (L.set i l) = (seenL L).set i (showL l) := by unfold seenL; rw [List.map_set]

theorem storeK_seen {L : List Ln} {base : Nat} {ws : List Int} (hb : base + ws.length ≤ 8 * L.length) (hw : ∀ x ∈ ws, wordI x = true) (hr : ∀ k, k < ws.length → ¬ rotten (lnAt L ((base + k) / 8))) : ∀ k, k ≤ ws.length →
    Hold L (storeK L base ws k) ∧ seenL (storeK L base ws k) = modS (seenL L) base ws k
  | 0, _ => ⟨Hold.refl L, rfl⟩
  | k + 1, hk => by
    obtain ⟨h1, h2⟩ := storeK_seen hb hw hr k (by omega)
    have hx : ws[k]? = some ws[k] := List.getElem?_eq_getElem (by omega)
    have hgd : ws.getD k 0 = ws[k] := by rw [List.getD_eq_getElem?_getD, hx]; rfl
    have hpo := put_ok (L := storeK L base ws k) (a := base + k) (v := ws.getD k 0) (by rw [h1.1]; omega) (by rw [hgd]; exact hw _ (List.getElem_mem _)) (fun h => hr k (by omega) ((h1.rot _).1 h))
    have e : storeK L base ws (k + 1) = (putL (storeK L base ws k) ((base + k : Nat) : Int) (ws.getD k 0)).2 := by
      show (putL (storeK L base ws k) ((base : Int) + (k : Int)) (ws.getD k 0)).2 = _
      rw [show ((base : Int) + (k : Int)) = ((base + k : Nat) : Int) by omega]
    rw [e, hpo]
    have hi : (base + k) / 8 < (storeK L base ws k).length := by rw [h1.1]; omega
    refine ⟨h1.trans (Hold.set hi rfl rfl), ?_⟩
    show seenL (List.set _ _ _) = _
    rw [seen_set, showL_put (fun h => hr k (by omega) ((h1.rot _).1 h)), ← seen_at hi, h2]
    rfl

theorem flushK_spec {L : List Ln} {line : Nat} : ∀ m, line + m ≤ L.length → Hold L (flushK L line m) ∧ (∀ i, (lnAt (flushK L line m) i).pend = (lnAt L i).pend) ∧ (∀ i, line ≤ i → i < line + m → (lnAt (flushK L line m) i).mark = (lnAt (flushK L line m) i).pend.length) ∧ seenL (flushK L line m) = seenL L
  | 0, _ => ⟨Hold.refl L, fun _ => rfl, fun i h1 h2 => by omega, rfl⟩
  | m + 1, hm => by
    obtain ⟨h1, h2, h3, h4⟩ := flushK_spec (L := L) (line := line) m (by omega)
    have hi : line + m < (flushK L line m).length := by rw [h1.1]; omega
    have e : flushK L line (m + 1) = (flushK L line m).set (line + m) (lnAt (flushK L line m) (line + m)).flush := by
      show (flushL (flushK L line m) ((line : Int) + (m : Int))).2 = _
      unfold flushL
      rw [if_neg (fun h => h ⟨by omega, by omega⟩), show ((line : Int) + (m : Int)).toNat = line + m by omega]
    rw [e]
    refine ⟨h1.trans (Hold.set hi rfl rfl), fun i => ?_, fun i hi1 hi2 => ?_, ?_⟩
    · rw [lnAt_set hi]
      by_cases h : i = line + m
      · rw [if_pos h, h]; exact h2 _
      · rw [if_neg h]; exact h2 i
    · rw [lnAt_set hi]
      by_cases h : i = line + m
      · rw [if_pos h]; rfl
      · rw [if_neg h]; exact h3 i hi1 (by omega)
    · rw [seen_set, showL_flush, ← seen_at hi, h4]
      refine List.ext_getElem? fun j => ?_
      rw [List.getElem?_set]
      have hl : (seenL L).length = L.length := seenL_len L
      by_cases hj : line + m = j
      · subst hj
        rw [if_pos rfl, if_pos (by omega), List.getD_eq_getElem?_getD, List.getElem?_eq_getElem (by omega)]; rfl
      · rw [if_neg hj]

/-! The fence and the failure -/

theorem settle_show {l : Ln} (h : l.Ok) (hr : ¬ rotten l) (hm : l.mark = l.pend.length) : ¬ rotten (l.settle l.mark).clear ∧ showL (l.settle l.mark).clear = showL l := by
  by_cases h0 : l.mark = 0
  · have hp : l.pend = [] := List.length_eq_zero_iff.1 (by omega)
    have e : l.settle l.mark = l := settle_none h hp
    rw [e, clear_none h hp]
    exact ⟨hr, rfl⟩
  · have e : l.settle l.mark = ⟨l.shown l.mark, enc (l.shown l.mark), l.pend.drop l.mark, l.mark - l.mark⟩ := by unfold Ln.settle; rw [if_neg h0]
    rw [e]
    have hf : fix (l.shown l.mark) (enc (l.shown l.mark)) = some (l.shown l.mark, enc (l.shown l.mark)) := fix_enc _
    refine ⟨fun hro => ?_, ?_⟩
    · have hc : (chk (l.shown l.mark) (enc (l.shown l.mark))).state = 2 := hro
      rw [chk_enc] at hc
      exact absurd hc (by decide)
    · rw [(showL_eq (l := (⟨l.shown l.mark, enc (l.shown l.mark), l.pend.drop l.mark, l.mark - l.mark⟩ : Ln).clear) hf).1]
      show lay (l.shown l.mark) [] = showL l
      unfold showL
      rw [← hm]; rfl

def fcL (L : List Ln) : List Ln := (fenceL L).map Ln.clear
theorem fcL_len (L : List Ln) : (fcL L).length = L.length := by unfold fcL; rw [List.length_map, fenceL_len]
theorem fcL_at {L : List Ln} {i : Nat} (hi : i < L.length) : lnAt (fcL L) i = ((lnAt L i).settle (lnAt L i).mark).clear := by
  unfold fcL fenceL
  have : lnAt (List.map Ln.clear (List.map (fun l => l.settle l.mark) L)) i = ((L[i]?.map fun l => l.settle l.mark).map Ln.clear).getD ⟨zeros8, 0, [], 0⟩ := by
    unfold lnAt
    rw [List.getD_eq_getElem?_getD, List.getElem?_map, List.getElem?_map]
  rw [this, lnAt_get hi]; rfl

/-! What Follow and Words find -/

section
variable {n : Nat} {L : List Ln} {p : Int}

theorem follow_class {ld : Int → Int × Int} (h : (followL ld n p).2 = 0) : rightP p = true ∧ p ≠ 0 ∧ (followL ld n p).1.2.1 = classP (ld (8 * lineP p)).1 := by
  unfold followL at h ⊢
  by_cases h1 : p = 0 ∨ rightP p = false
  · rw [if_pos h1] at h; exact absurd h (by decide)
  · rw [if_neg h1] at h ⊢
    have hp : rightP p = true ∧ p ≠ 0 := ⟨by cases hh : rightP p; exact absurd (.inr hh) h1; rfl, fun e => h1 (.inl e)⟩
    refine ⟨hp.1, hp.2, ?_⟩
    by_cases h2 : (blockL ld n (lineP p)).2 ≠ 0
    · rw [if_pos h2] at h; exact absurd h h2
    · rw [if_neg h2] at h ⊢
      by_cases h3 : (blockL ld n (lineP p)).1.2.2.1 = 0 ∨ (blockL ld n (lineP p)).1.2.2.2 ≠ pgenP p
      · rw [if_pos h3] at h; exact absurd h (by decide)
      · rw [if_neg h3]
        have hk : (blockL ld n (lineP p)).1.2.2.1 ≠ 0 := fun e => h3 (.inl e)
        unfold blockL at h2 hk ⊢
        generalize assignedL ld n (chunkP n (lineP p)) = a at *
        by_cases g1 : a.2 ≠ 0
        · rw [if_pos g1] at h2; exact absurd g1 h2
        · rw [if_neg g1] at h2 hk ⊢
          by_cases g2 : a.1 = -1 ∨ (lineP p - 16) % linesP a.1 ≠ 0
          · rw [if_pos g2] at h2; exact absurd (by decide) h2
          · rw [if_neg g2] at h2 hk ⊢
            by_cases g3 : (ld (8 * lineP p)).2 ≠ 0
            · rw [if_pos g3] at h2; exact absurd g3 h2
            · rw [if_neg g3] at h2 hk ⊢
              by_cases g4 : properP (ld (8 * lineP p)).1 a.1 = false
              · rw [if_pos g4] at h2; exact absurd (by decide) h2
              · rw [if_neg g4] at hk ⊢
                have hpr : properP (ld (8 * lineP p)).1 a.1 = true := by cases hh : properP (ld (8 * lineP p)).1 a.1; exact absurd hh g4; rfl
                generalize (ld (8 * lineP p)).1 = hd at *
                have hk' : kindP hd ≠ 0 := hk
                have h0 : hd ≠ 0 := fun e => hk' (by rw [e]; decide)
                unfold properP at hpr
                rw [decide_eq_false h0, Bool.false_or, Bool.and_eq_true, Bool.and_eq_true] at hpr
                exact (of_decide_eq_true hpr.1.2).symm

theorem block_err (hn : InL n) (hL : L.length = n) (line : Int) : (blockL (loadL L) n line).2 = 0 ∨ (blockL (loadL L) n line).2 = 1 ∨ (blockL (loadL L) n line).2 = 3 ∨ (blockL (loadL L) n line).2 = 9 := by
  have hc := hn.chunks
  have ha : (assignedL (loadL L) n (chunkP n line)).2 = 0 ∨ (assignedL (loadL L) n (chunkP n line)).2 = 1 ∨ (assignedL (loadL L) n (chunkP n line)).2 = 3 ∨ (assignedL (loadL L) n (chunkP n line)).2 = 9 := by
    unfold assignedL
    split
    · exact .inr (.inl rfl)
    · rename_i hk
      split
      · rename_i h9
        rcases load_err (L := L) (a := 112 + chunkP n line) (by omega) with h | h
        · exact absurd h h9
        · exact .inr (.inr (.inr h))
      · split
        · exact .inr (.inr (.inl rfl))
        · exact .inl rfl
  have hcp : chunkP n line = -1 ∨ (16 ≤ line ∧ line < 16 + 16 * (chunksN n : Int)) := by unfold chunkP; split <;> omega
  unfold blockL
  by_cases h1 : (assignedL (loadL L) n (chunkP n line)).2 ≠ 0
  · rw [if_pos h1]; exact ha
  · rw [if_neg h1]
    have hin : 16 ≤ line ∧ line < 16 + 16 * (chunksN n : Int) := hcp.resolve_left fun e => by
      refine h1 ?_
      rw [e]
      unfold assignedL
      rw [if_pos (by omega)]
      decide
    split
    · exact .inr (.inl rfl)
    · split
      · rename_i h9
        rcases load_err (L := L) (a := 8 * line) (by omega) with h | h
        · exact absurd h h9
        · exact .inr (.inr (.inr h))
      · split
        · exact .inr (.inr (.inl rfl))
        · exact .inl rfl

theorem follow_err (hn : InL n) (hL : L.length = n) : (followL (loadL L) n p).2 = 0 ∨ (followL (loadL L) n p).2 = 1 ∨ (followL (loadL L) n p).2 = 3 ∨ (followL (loadL L) n p).2 = 9 ∨ (followL (loadL L) n p).2 = 70 := by
  have hb := block_err (L := L) hn hL (lineP p)
  unfold followL
  split
  · exact .inr (.inl rfl)
  · split
    · rcases hb with h | h | h | h
      · exact .inl h
      · exact .inr (.inl h)
      · exact .inr (.inr (.inl h))
      · exact .inr (.inr (.inr (.inl h)))
    · split
      · exact .inr (.inr (.inr (.inr rfl)))
      · exact .inl rfl

theorem wTo_err {base : Int} : ∀ m : Nat, 0 ≤ base → base + 1 + m ≤ 8 * (L.length : Int) → (wTo (loadL L) base m).2 = 0 ∨ (wTo (loadL L) base m).2 = 9
  | 0, _, _ => .inl rfl
  | m + 1, h0, h1 => by
    have ih := wTo_err (base := base) m h0 (by omega)
    unfold wTo
    split
    · exact ih
    · split
      · rename_i h9
        exact .inr ((load_err (L := L) (a := base + 1 + m) (by omega)).resolve_left h9)
      · exact .inl rfl

theorem wTo_get {ld : Int → Int × Int} {base : Int} : ∀ m : Nat, (wTo ld base m).2 = 0 → ∀ i, i < m → (wTo ld base m).1[i]? = some (ld (base + 1 + i)).1
  | 0, _, i, hi => absurd hi (by omega)
  | m + 1, h, i, hi => by
    by_cases h0 : (wTo ld base m).2 = 0
    · by_cases h1 : (ld (base + 1 + m)).2 = 0
      · rw [wTo_ok h0 h1]
        have hl := wTo_len m h0
        by_cases him : i = m
        · subst him
          rw [List.getElem?_append_right (by omega), hl, Nat.sub_self]; rfl
        · rw [List.getElem?_append_left (by omega)]
          exact wTo_get m h0 i (by omega)
      · rw [wTo_bad h0 h1] at h; exact absurd h h1
    · rw [wTo_stay h0 (m + 1) (by omega)] at h; exact absurd h h0

/-- A block lies in the heap. -/
theorem block_fits (hn : InL n) {line c : Int} (h1 : 16 ≤ line) (h2 : line < 16 + 16 * (chunksN n : Int)) (h3 : 0 ≤ c) (h4 : c ≤ 4) (h5 : (line - 16) % linesP c = 0) : line + linesP c ≤ n ∧ 1 ≤ linesP c := by
  have hc := hn.chunks
  obtain rfl | rfl | rfl | rfl | rfl : c = 0 ∨ c = 1 ∨ c = 2 ∨ c = 3 ∨ c = 4 := by omega
  · have e : linesP 0 = 1 := by decide
    rw [e] at h5 ⊢; omega
  · have e : linesP 1 = 2 := by decide
    rw [e] at h5 ⊢; omega
  · have e : linesP 2 = 4 := by decide
    rw [e] at h5 ⊢; omega
  · have e : linesP 3 = 8 := by decide
    rw [e] at h5 ⊢; omega
  · have e : linesP 4 = 16 := by decide
    rw [e] at h5 ⊢; omega

theorem words_err (hok : LOk L) (hn : InL n) (hL : L.length = n) : (wordsL (loadL L) n p).2 = 0 ∨ (wordsL (loadL L) n p).2 = 1 ∨ (wordsL (loadL L) n p).2 = 3 ∨ (wordsL (loadL L) n p).2 = 9 ∨ (wordsL (loadL L) n p).2 = 70 := by
  have hf := follow_err (L := L) (p := p) hn hL
  unfold wordsL
  by_cases h0 : (followL (loadL L) n p).2 ≠ 0
  · rw [if_pos h0]; exact hf
  · rw [if_neg h0]
    obtain ⟨f1, f2⟩ := followL_range (loadL_ok hok) hn p (Decidable.not_not.1 h0)
    obtain ⟨q1, q2, q3, q4, q5, q6⟩ := blockL_range (loadL_ok hok) hn (lineP p) f2
    rw [← f1] at q1 q4 q5 q6
    obtain ⟨g1, g2⟩ := block_fits hn q2 q3 q4 q5 q6
    have hro := roomP_ok q4 q5
    rcases wTo_err (L := L) (base := 8 * (followL (loadL L) n p).1.1) (roomP (followL (loadL L) n p).1.2.1).toNat (by omega) (by rw [hL]; omega) with h | h
    · exact .inl h
    · exact .inr (.inr (.inr (.inl h)))

/-- The law: Fill has filled. -/
theorem fill_keeps (hok : LOk L) (hn : InL n) (hL : L.length = n) {ws : List Int} {L' : List Ln} (h : fillL (loadL L) n L p ws = (0, L')) :
    ∃ line : Nat, lineP p = (line : Int) ∧ 16 ≤ line ∧ 8 * line + 1 + ws.length ≤ 8 * n ∧ line + ws.length / 8 < n ∧ p ≠ 0 ∧ (∀ x ∈ ws, wordI x = true) ∧ L'.length = n ∧ seenL L' = modS (seenL L) (8 * line + 1) ws ws.length ∧
      ((wordsL (loadL (fcL L')) n p).2 = 0 → ws.length ≤ (wordsL (loadL (fcL L')) n p).1.length ∧ ∀ i, i < ws.length → (wordsL (loadL (fcL L')) n p).1[i]? = ws[i]?) := by
  have hf0 : (followL (loadL L) n p).2 = 0 := by
    by_cases h0 : (followL (loadL L) n p).2 ≠ 0
    · unfold fillL at h; rw [if_pos h0] at h; exact absurd (Prod.mk.inj h).1 h0
    · exact Decidable.not_not.1 h0
  unfold fillL at h
  rw [if_neg (fun h => h hf0)] at h
  obtain ⟨f1, f2⟩ := followL_range (loadL_ok hok) hn p hf0
  obtain ⟨q1, q2, q3, q4, q5, q6⟩ := blockL_range (loadL_ok hok) hn (lineP p) f2
  obtain ⟨c1, c2, c3⟩ := follow_class hf0
  rw [← f1] at q1 q4 q5 q6
  obtain ⟨g1, g2⟩ := block_fits hn q2 q3 q4 q5 q6
  have hro := roomP_ok q4 q5
  rw [q1] at h
  obtain ⟨line, hline⟩ : ∃ line : Nat, lineP p = (line : Int) := ⟨(lineP p).toNat, by omega⟩
  generalize hB : followL (loadL L) n p = B at *
  by_cases hbig : roomP B.1.2.1 < ws.length
  · rw [if_pos hbig] at h; exact absurd (Prod.mk.inj h).1 (by decide)
  rw [if_neg hbig] at h
  by_cases hall : ws.all wordI = false
  · rw [if_pos hall] at h; exact absurd (Prod.mk.inj h).1 (by decide)
  rw [if_neg hall] at h
  by_cases hbad : fillBad L (lineP p) ws.length
  · rw [if_pos hbad] at h; exact absurd (Prod.mk.inj h).1 (by decide)
  rw [if_neg hbad] at h
  have hL' := (Prod.mk.inj h).2
  have hw : ∀ x ∈ ws, wordI x = true := by
    have : ws.all wordI = true := by cases hh : ws.all wordI; exact absurd hh hall; rfl
    exact List.all_eq_true.1 this
  rw [hline] at hL' hbad q1 q2 q3 g1
  rw [show 8 * ((line : Nat) : Int) + 1 = ((8 * line + 1 : Nat) : Int) by omega] at hL'
  have hfit : 8 * line + 1 + ws.length ≤ 8 * n := by omega
  have hfit2 : line + ws.length / 8 < n := by omega
  have hnr : ∀ j, 0 < ws.length → j ≤ ws.length / 8 → ¬ rotten (lnAt L (line + j)) := fun j h0 hj hr => by
    refine hbad ⟨h0, j, hj, ?_⟩
    unfold stateI
    rw [if_pos ⟨by omega, by omega⟩, show ((line : Int) + (j : Int)).toNat = line + j by omega]
    have : (chk (lnAt L (line + j)).ws (lnAt L (line + j)).code).state = 2 := hr
    rw [this]; rfl
  obtain ⟨s1, s2⟩ := storeK_seen (L := L) (base := 8 * line + 1) (ws := ws) (by omega) hw (fun k hk => by
    have := hnr ((k + 1) / 8) (by omega) (by omega)
    rw [show (8 * line + 1 + k) / 8 = line + (k + 1) / 8 by omega]; exact this) ws.length (Nat.le_refl _)
  obtain ⟨t1, t2, t3, t4⟩ := flushK_spec (L := storeK L (8 * line + 1 : Nat) ws ws.length) (line := line) (ws.length / 8 + 1) (by rw [s1.1]; omega)
  rw [hL'] at t1 t2 t3 t4
  have hlen' : L'.length = n := by rw [t1.1, s1.1, hL]
  have hokL' : LOk L' := by
    intro l hl
    obtain ⟨i, hi⟩ := List.mem_iff_getElem?.1 hl
    have hil := (List.getElem?_eq_some_iff.1 hi).1
    rw [lnAt_get hil] at hi
    obtain rfl := Option.some.inj hi
    have hst : LOk (storeK L (8 * line + 1 : Nat) ws ws.length) := by
      have : ∀ k, k ≤ ws.length → LOk (storeK L (8 * line + 1 : Nat) ws k) := by
        intro k
        induction k with
        | zero => exact fun _ => hok
        | succ k ih =>
          intro hk
          have ih := ih (by omega)
          have hx : ws[k]? = some ws[k] := List.getElem?_eq_getElem (by omega)
          have hgd : ws.getD k 0 = ws[k] := by rw [List.getD_eq_getElem?_getD, hx]; rfl
          have hwk := hw ws[k] (List.getElem_mem _)
          show LOk (putL _ _ _).2
          unfold putL
          split
          · exact ih
          · split
            · exact ih
            · split
              · exact ih
              · rename_i hr _ _
                refine ih.set ((ih _ (lnAt_mem (by omega))).put (Nat.mod_lt _ (by decide)) ?_)
                rw [hgd]
                exact (toNat_word hwk).2
      exact this _ (Nat.le_refl _)
    have hfl : ∀ m, LOk (flushK (storeK L (8 * line + 1 : Nat) ws ws.length) line m) := by
      intro m
      induction m with
      | zero => exact hst
      | succ m ih =>
        show LOk (flushL _ _).2
        unfold flushL
        split
        · exact ih
        · rename_i hin
          have hin := Decidable.not_not.1 hin
          exact ih.set (ih _ (lnAt_mem (by have := hin.1; have := hin.2; omega))).flush
    have := hfl (ws.length / 8 + 1)
    rw [hL'] at this
    exact this _ hl
  refine ⟨line, hline, by omega, hfit, hfit2, c2, hw, hlen', by rw [t4, s2], fun hw0 => ?_⟩
  by_cases hz : ws.length = 0
  · exact ⟨by omega, fun i hi => by omega⟩
  have hshow : ∀ j, j ≤ ws.length / 8 → ¬ rotten (lnAt (fcL L') (line + j)) ∧ showL (lnAt (fcL L') (line + j)) = showL (lnAt L' (line + j)) := fun j hj => by
    rw [fcL_at (by omega)]
    exact settle_show (hokL' _ (lnAt_mem (by omega))) (fun hr => hnr j (by omega) hj ((s1.rot _).1 ((t1.rot _).1 hr))) (t3 _ (by omega) (by omega))
  have hfl := fcL_len L'
  have hval : ∀ x, 8 * line ≤ x → x ≤ 8 * line + ws.length → loadL (fcL L') (x : Nat) = (((val (seenL L') x : Nat) : Int), 0) := fun x h1 h2 => by
    have hj := hshow (x / 8 - line) (by omega)
    rw [show line + (x / 8 - line) = x / 8 by omega] at hj
    rw [load_show (by rw [hfl]; omega) (by rw [Int.toNat_natCast]; exact hj.1), Int.toNat_natCast, hj.2, ← seen_at (by omega)]
    rfl
  have hS8 : Rows8 (seenL L) := fun s hs => (seenL_ok hok s hs).len
  have hSl : (seenL L).length = n := by rw [seenL_len, hL]
  have hmod := fun x => modS_val hS8 (8 * line + 1) ws x ws.length (by rw [hSl]; exact hfit)
  rw [← s2, ← t4] at hmod
  have hhead : (loadL (fcL L') (8 * (line : Int))).1 = (loadL L (8 * (line : Int))).1 := by
    rw [show 8 * (line : Int) = ((8 * line : Nat) : Int) by omega, hval (8 * line) (by omega) (by omega), hmod, if_neg (by omega)]
    rw [load_show (by omega) (by rw [Int.toNat_natCast, show 8 * line / 8 = line by omega]; exact hnr 0 (by omega) (by omega)), Int.toNat_natCast, ← seen_at (by omega)]
    rfl
  unfold wordsL at hw0 ⊢
  by_cases hF : (followL (loadL (fcL L')) n p).2 ≠ 0
  · rw [if_pos hF] at hw0; exact absurd hw0 hF
  · rw [if_neg hF] at hw0 ⊢
    have hF := Decidable.not_not.1 hF
    obtain ⟨d1, d2, d3⟩ := follow_class hF
    have hokf : LOk (fcL L') := by
      intro l hl
      unfold fcL fenceL at hl
      rw [List.map_map] at hl
      obtain ⟨l0, h0, rfl⟩ := List.mem_map.1 hl
      exact ((hokL' l0 h0).settle _).clear
    obtain ⟨e1, e2⟩ := followL_range (loadL_ok hokf) hn p hF
    obtain ⟨r1, r2, r3, r4, r5, r6⟩ := blockL_range (loadL_ok hokf) hn (lineP p) e2
    rw [← e1] at r1
    rw [hline] at d3 c3
    rw [hhead, ← c3] at d3
    rw [r1, d3, hline] at hw0 ⊢
    have hlw := wTo_len _ hw0
    refine ⟨by rw [hlw]; omega, fun i hi => ?_⟩
    rw [wTo_get _ hw0 i (by omega), show 8 * (line : Int) + 1 + (i : Int) = ((8 * line + 1 + i : Nat) : Int) by omega, hval _ (by omega) (by omega), hmod, if_pos (by omega), Nat.add_sub_cancel_left]
    have hx : ws[i]? = some ws[i] := List.getElem?_eq_getElem hi
    rw [List.getD_eq_getElem?_getD, hx]
    have := (toNat_word (hw ws[i] (List.getElem_mem _))).1
    simp only [Option.getD_some, Option.some.injEq]
    exact this

end

end Go.Proofs.YthepaakejpbppaaGreatDoor

/- The law ClassFillKeeps: it returns true. -/
namespace Go.Proofs.YthepaakejpbppaaGreatDoor
open Go.E

/-! A field of a value -/

def fieldB (P : Program) (s f ty off : Nat) : Bool := match P.underlying s with
  | some (.struct fs) => match fs[f]? with
    | some g => Nat.beq g.type ty && Nat.beq g.offset off
    | none => false
  | _ => false
def flatB (P : Program) (t : Nat) : Bool := match P.underlying t with
  | some (.struct _) => false
  | some (.array _ _) => false
  | some _ => true
  | none => false

theorem flatB_run {P : Program} {t : Nat} (h : flatB P t = true) (w : World) : (isAgg t).run P w = .ok false w := by
  unfold flatB at h
  split at h
  · cases h
  · cases h
  · rename_i d h1 h2 hd
    cases hdd : d with
    | struct fs => exact absurd hdd (h1 fs)
    | array n e => exact absurd hdd (h2 n e)
    | _ => subst hdd; simp [isAgg, run_underlying hd]
  · cases h

theorem field_cell {P : Program} {s f ty off : Nat} (hB : fieldB P s f ty off = true) (hf : flatB P ty = true) {cs : List Value} {v : Value} (hv : cs[off]? = some v) (w : World) : (Instr.field s (.agg cs.toArray) f).run P w = .ok v w := by
  unfold fieldB at hB
  split at hB
  · rename_i fs hfs
    split at hB
    · rename_i g hg
      simp only [Bool.and_eq_true] at hB
      obtain ⟨hb1, hb2⟩ := hB
      obtain rfl := Nat.eq_of_beq_eq_true hb1
      obtain rfl := Nat.eq_of_beq_eq_true hb2
      have hget : cs.toArray[g.offset]? = some v := by simpa using hv
      simp only [Instr.field, Sem.run_bind, run_underlying hfs, Result.andThen_ok, hg, asAgg, Sem.run_pure, Go.part, flatB_run hf, Bool.false_eq_true, if_false, hget]
    · cases hB
  · cases hB

theorem Make07_calls (line gen : Int) (hl : inI64 line) (hg : 0 ≤ gen ∧ gen ≤ 1099511627775) (w : World) : Calls cx.P 40 #[.int .i64 line, .int .i64 gen] w (Ret fun v w' => v = .int .i64 (if 1 ≤ line ∧ line ≤ 4095 ∧ 1 ≤ gen ∧ gen ≤ 1048575 then line + gen * 4096 else 0) ∧ w = w') := by
  refine calls_body cx_ok (args := [.int .i64 line, .int .i64 gen]) Tryz.func40 rfl 23 rfl rfl [.tmp 4] rfl ?_
  have no : ¬ (1 ≤ line ∧ line ≤ 4095 ∧ 1 ≤ gen ∧ gen ≤ 1048575) → Value.int .i64 0 = .int .i64 (if 1 ≤ line ∧ line ≤ 4095 ∧ 1 ≤ gen ∧ gen ≤ 1048575 then line + gen * 4096 else 0) := fun h => by rw [if_neg h]
  refine ⟨fun h => ⟨no (by omega), rfl⟩, fun h1 => ⟨fun h => ⟨no (by omega), rfl⟩, fun h2 => ⟨fun h => ⟨no (by omega), rfl⟩, fun h3 => ⟨fun h => ⟨no (by omega), rfl⟩, fun h4 => ?_⟩⟩⟩⟩
  refine ⟨gen * 4096, by rw [w64 (by omega)], line + gen * 4096, by rw [w64 (by omega)], ?_⟩
  rw [if_pos (by omega)]
  exact ⟨rfl, rfl⟩

theorem fillL_no {ld : Int → Int × Int} {n : Nat} {L : List Ln} {p : Int} {ws : List Int} (h : (fillL ld n L p ws).1 ≠ 0) : (fillL ld n L p ws).2 = L := by
  unfold fillL at h ⊢
  split
  · rfl
  · split
    · rfl
    · split
      · rfl
      · split
        · rfl
        · rename_i h1 h2 h3 h4
          rw [if_neg h1, if_neg h2, if_neg h3, if_neg h4] at h
          exact absurd rfl h

theorem scells_set {S : List (List Nat)} (hS : Rows8 S) {i j : Nat} (hi : i < S.length) (hj : j < 8) (v : Nat) : (scells S).set (i * 8 + j) (.int .i64 (v : Nat)) = scells (S.set i ((S.getD i []).set j v)) := by
  have hL : ∀ r ∈ S, (wcells r).length = 8 := fun r hr => by simp [wcells, hS r hr]
  have hr : S[i]? = some (S.getD i []) := by rw [List.getD_eq_getElem?_getD, List.getElem?_eq_getElem hi]; rfl
  have h8 := hS _ (List.mem_of_getElem? hr)
  have hlen := fm_len hL
  have := fm_splice (f := wcells) (k := 8) (o := j) (n := 1) (vs := [.int .i64 (v : Nat)]) _ rfl hL hr (by omega) (a' := (S.getD i []).set j v) (by
    rw [wcells_set, ← splice_one (by simp only [wcells, List.length_map]; omega)]
    rfl)
  unfold scells
  rw [← this]
  have h2 := splice_one (l := S.flatMap wcells) (o := i * 8 + j) (v := .int .i64 (v : Nat)) (by rw [hlen]; omega)
  rw [← h2]
  rfl

theorem crash_nil (L : List Ln) : crashL L [] = (0, L.map Ln.clear) := by
  have h : cutsOk L [] := fun i c h => by simp at h
  unfold crashL
  rw [if_pos h]
  rfl

set_option maxHeartbeats 8000000 in
set_option maxRecDepth 100000 in
theorem KeepsLaw_calls (w : World) (hg : Gl w) (ln : Nat) (hln : ln < 256) (os : List OpV) (hos : ∀ o ∈ os, o.Ok) (es : List (Int × Int)) (_hes : ∀ e ∈ es, inI64 e.1) {sO sE : Value} (hO : SliZ w sO os.length (ocs os)) (hE : SliZ w sE es.length (ecells es)) (at8 : Nat) (hat8 : at8 < 256) (ws : List Int) (_hwi : ∀ x ∈ ws, inI64 x) {sW : Value} (hW : SliZ w sW ws.length (i64s ws)) :
    Calls cx.P 8 #[.agg #[.int .u8 (ln : Nat), sO, sE], .int .u8 (at8 : Nat), sW] w (Ret fun x w' => x = .bool true ∧ Tr [] w w') := by
  obtain ⟨aO, cO, hsO⟩ := hO.slice
  obtain ⟨aE, cE, hsE⟩ := hE.slice
  obtain ⟨aW, cW, hsW⟩ := hW.slice
  subst hsO; subst hsE; subst hsW
  refine calls_body cx_ok (args := [.agg #[.int .u8 (ln : Nat), .slice aO os.length cO, .slice aE es.length cE], .int .u8 (at8 : Nat), .slice aW ws.length cW]) Tryz.func8 rfl 186 rfl rfl [.tmp 6] rfl ?_
  intro b3 w1 n1
  have e1 := n1.num; have z1 := n1.size
  have B3 : Blk w1 b3 [.int .u8 (ln : Nat), .slice aO os.length cO, .slice aE es.length cE] 25 := n1.blk
  refine call (sanity_calls w1 (hg.ext n1.tr)) ?_
  rintro _ w1' ⟨rfl, t2⟩
  refine ⟨_, _, B3.ext t2, by show 2 < 3; decide, rfl, fun w2 u2 => ?_⟩
  have B3' : Blk w2 b3 [.int .u8 (ln : Nat), .slice aO os.length cO, .slice none 0 0] 25 := u2.blk
  have t02 : Tr [] w w2 := u2.ext (n1.tr.ext t2) (by omega)
  refine ⟨_, B3'.all, rfl, ?_⟩
  refine call (played_calls w2 (hg.ext t02) ln hln os hos [] (by simp) (hO.ext t02) (sE := .slice none 0 0) ⟨none, 0, rfl, Nat.le_refl _, .inl rfl⟩) ?_
  rintro x w3 (⟨hno, t3, cs, rfl, hcl, hc1⟩ | ⟨h80, h40, m, v, s, z, sm, span, span', F1, FS, FV, FSV, rfl, hp⟩)
  · intro b8 w4 n4
    have e4 := n4.num; have z4 := n4.size
    refine ⟨_, _, n4.blk, hcl, by show 0 + 11 ≤ 11; decide, hc1, fun w5 u5 => ?_⟩
    exact ⟨rfl, u5.ext ((t02.ext t3).ext n4.tr) (by have := t3.size; have := t02.size; omega)⟩
  · have hn : InL (64 + ln % 40) := by unfold InL; omega
    have hlen : (opsL (List.replicate (64 + ln % 40) (quiet zeros8)) os os.length).length = 64 + ln % 40 := by rw [opsL_len, List.length_replicate]
    generalize 64 + ln % 40 = n at *
    generalize opsL (List.replicate n (quiet zeros8)) os os.length = L at *
    have hE0 : setsE n ([] : List (Int × Int)) ([] : List (Int × Int)).length = [] := rfl
    rw [hE0] at hp
    intro b8 w4 n4
    have e4 := n4.num; have z4 := n4.size
    refine ⟨_, _, n4.blk, hcells_len n m v s, by show 0 + 11 ≤ 11; decide, hcells_one n m v s, fun w5 u5 => ?_⟩
    have B8 : Blk w5 b8 (hcells n m v s) 33 := u5.blk
    have t35 : Tr [] w3 w5 := u5.ext n4.tr (by omega)
    have t05 := (t02.ext hp.tr).ext t35
    refine ⟨fun hbig => ⟨rfl, t05⟩, fun hbig => ?_⟩
    have hw140 : ws.length ≤ 140 := by have hb : ¬ (140 : Int) < ((ws.length : Nat) : Int) := hbig; omega
    have hnn : 64 ≤ n ∧ n ≤ 103 := hn
    have hch := hn.chunks
    have hm := hp.mem.ext t35
    have hg5 := hg.ext t05
    have z02 := t02.size
    have z3 := hp.tr.size
    have hge := hp.ge
    have f1 : ∀ c ∈ F1, w2.heap.size ≤ c ∧ c < w3.heap.size := fun c hc => ⟨hge c (.inl hc), hp.mem.lt c hc⟩
    have hb81 : b8 ∉ F1 := fun h => by have := f1 b8 h; omega
    have hW5 : SliZD w5 (.slice aW ws.length cW) ws.length (i64s ws) fun c => c < w.heap.size := (hW.zd (fun h => by rw [← i64s_len]; exact h)).ext t05
    have hok := hm.ok
    have hld := loadL_ok hok
    refine ⟨_, B8.cell rfl, _, hlay B8, rfl, ?_⟩
    refine call (Scan_calls hm hg5 hn) ?_
    rintro _ w6 ⟨t6, s1, s2, s3, rfl, h1, h2, h3⟩
    have k1 := startsK_len (loadL L) n (chunksN n)
    have hY : (scanB (loadL L) n).length ≤ 1048576 := by have := blksOf_len (loadL L) n (startsK (loadL L) n (chunksN n)); unfold scanB; omega
    have hBl : ∀ b ∈ scanB (loadL L) n, 16 ≤ b.1 ∧ b.1 < 16 + 16 * (chunksN n : Int) ∧ 0 ≤ b.2.2.2 ∧ b.2.2.2 ≤ 1099511627775 := fun b hb => by
      unfold scanB blksOf at hb
      obtain ⟨l, hl, rfl⟩ := List.mem_map.1 hb
      obtain ⟨hl, hok'⟩ := List.mem_filter.1 hl
      have hb0 := of_decide_eq_true hok'
      rw [blockL_line hb0]
      have hin := startsK_in hn hl
      refine ⟨hin.1, hin.2, ?_⟩
      unfold blockL at hb0 ⊢
      have hla := hld (8 * l) (by unfold inI64; omega)
      split at hb0
      · rename_i g1; rw [if_pos g1]; show (0 : Int) ≤ 0 ∧ (0 : Int) ≤ 1099511627775; decide
      · rename_i g1; rw [if_neg g1]
        split at hb0
        · rename_i g2; rw [if_pos g2]; show (0 : Int) ≤ 0 ∧ (0 : Int) ≤ 1099511627775; decide
        · rename_i g2; rw [if_neg g2]
          split at hb0
          · rename_i g3; rw [if_pos g3]; show (0 : Int) ≤ 0 ∧ (0 : Int) ≤ 1099511627775; decide
          · rename_i g3; rw [if_neg g3]
            split at hb0
            · rename_i g4; rw [if_pos g4]; show (0 : Int) ≤ 0 ∧ (0 : Int) ≤ 1099511627775; decide
            · rename_i g4; rw [if_neg g4]
              show 0 ≤ genP (loadL L (8 * l)).1 ∧ genP (loadL L (8 * l)).1 ≤ _
              unfold genP
              split <;> omega
    generalize scanB (loadL L) n = Y at *
    refine ⟨s2, w6, field_cell (s := 59) (f := 1) (ty := 57) (off := 1) (cs := [s1, s2, s3]) (by kernel_rfl) (by kernel_rfl) rfl w6, ?_⟩
    obtain ⟨a2, c2, rfl⟩ := h2.slice
    have t56 := t6
    refine ⟨fun h0 => ⟨rfl, t05.ext t6⟩, fun h0 => ?_⟩
    have hYp : 0 < Y.length := by have h0' : ¬ ((Y.length : Nat) : Int) = 0 := h0; omega
    obtain ⟨g, o, hga, hYc, hcs⟩ := h2.sli.head hYp
    subst hga
    obtain ⟨q, hq⟩ : ∃ q, q = at8 % Y.length := ⟨_, rfl⟩
    have hqY : q < Y.length := by rw [hq]; exact Nat.mod_lt _ hYp
    obtain ⟨b, hb⟩ : ∃ b, Y[q]? = some b := ⟨_, List.getElem?_eq_getElem hqY⟩
    obtain ⟨hb1, hb2, hb3, hb4⟩ := hBl b (List.mem_of_getElem? hb)
    refine ⟨((at8 : Nat) : Int), by rw [w64 (by omega)], ((q : Nat) : Int), by omega, by rw [IntWalk.rem_in _ _ (by omega)]; omega, q, rfl, hqY, _, bcs_at hcs hb, rfl, ?_⟩
    intro b11 w7 n7
    have e7 := n7.num; have z7 := n7.size; have z6 := t6.size
    refine ⟨_, _, n7.blk, rfl, by show 0 + 4 ≤ 4; decide, rfl, fun w8 u8 => ?_⟩
    have B11 : Blk w8 b11 (bcells b) 44 := u8.blk
    have t58 : Tr [] w5 w8 := u8.ext (t6.ext n7.tr) (by omega)
    refine ⟨_, B11.cell rfl, _, B11.cell rfl, ?_⟩
    refine call (Make07_calls b.1 b.2.2.2 (by unfold inI64; omega) ⟨hb3, hb4⟩ w8) ?_
    rintro _ _ ⟨rfl, rfl⟩
    obtain ⟨p, hpE⟩ : ∃ p, p = (if 1 ≤ b.1 ∧ b.1 ≤ 4095 ∧ 1 ≤ b.2.2.2 ∧ b.2.2.2 ≤ 1048575 then b.1 + b.2.2.2 * 4096 else 0) := ⟨_, rfl⟩
    rw [← hpE]
    have hpi : inI64 p := by rw [hpE]; unfold inI64; split <;> omega
    have hpl : p ≠ 0 → lineP p = b.1 ∨ rightP p = false := fun h0 => by
      rw [hpE] at h0 ⊢
      split at h0
      · rename_i hh
        rw [if_pos hh]
        unfold lineP
        split
        · left; omega
        · rename_i hr
          right
          cases hx : rightP (b.1 + b.2.2.2 * 4096)
          · rfl
          · exact absurd hx hr
      · exact absurd rfl h0
    clear hpE
    have hm8 := hm.ext t58
    have hg8 := hg5.ext t58
    refine ⟨_, (B8.ext t58).cell rfl, ?_⟩
    refine call (Seen_gen hm8 hg8) ?_
    rintro _ w9 ⟨t9, bo, rfl, hbo, BO⟩
    have t59 := t58.ext t9
    have z58 := t58.size
    have hv9 : RdV w9 133 v m [] := (hp.view.rd.ext t35).ext t59
    refine ⟨_, (B8.ext t59).cell rfl, _, hlay (B8.ext t59), rfl, ?_⟩
    refine call (Fill_calls (hm.ext t59) (hg5.ext t59) hv9 (by decide) (by simp) hn (by omega) p hpi (hW5.ext t59) (fun c hc hm' => by have := f1 c hm'; omega) hw140) ?_
    rw [viewL_nil]
    rintro _ w10 ⟨rfl, G1, hm10, st10⟩
    have t2_10 := fresh_step ((hp.tr.ext t35).ext t59) (fun c hc => (f1 c hc).1) st10
    have B8T := (B8.ext t59).tr st10.tr hb81
    have hF5 : ∀ c ∈ F1, c < w5.heap.size := fun c hc => by have := f1 c hc; have := t35.size; omega
    have hboF : bo ∉ F1 := fun h => by have := hF5 bo h; omega
    have BOT := BO.tr st10.tr hboF
    have hg10 := (hg.ext t02).ext t2_10.1
    have hSl : (seenL L).length = L.length := seenL_len L
    have hS8 := seenL_ok hok
    have B11T : Blk w10 b11 (bcells b) 44 := (B11.ext t9).tr st10.tr (fun h => by have := hF5 b11 h; omega)
    have hg1 : ∀ c ∈ G1, c ∈ F1 ∨ w9.heap.size ≤ c := fun c hc => st10.sub c hc
    have z9 := t9.size
    have z10 := st10.tr.size
    have hbo9 := BO.lt
    have hv10 : RdV w10 133 v m [] := by
      have hvm : VMem w10 133 v m [] FV := ((VMem.ext hp.view t35).ext t59).tr st10.tr (fun c hc hm' => hp.d2 c hc hm')
      exact hvm.rd
    have t010 := t02.ext t2_10.1
    refine ⟨fun hR0 => ?_, fun hR0 => ?_⟩
    rotate_left
    · -- an error: nothing is stored
      rw [fillL_no hR0] at hm10
      refine ⟨_, B8T.cell rfl, ?_⟩
      refine call (Seen_gen hm10 hg10) ?_
      rintro _ w11 ⟨t11, bq, rfl, hbq, BQ⟩
      refine call (SameSeen_calls (seenL L) hS8 L.length hSl (by omega) (s := .slice (some ⟨bq, 0, none⟩) L.length L.length) (t := .slice (some ⟨bo, 0, none⟩) L.length L.length) ⟨_, _, rfl, Nat.le_refl _, .inr ⟨bq, 0, rfl, BQ.all⟩⟩ ⟨_, _, rfl, Nat.le_refl _, .inr ⟨bo, 0, rfl, (BOT.ext t11).all⟩⟩) ?_
      rintro _ w12 ⟨rfl, t12⟩
      exact ⟨rfl, t010.ext (t11.ext t12)⟩
    obtain ⟨L', hL'⟩ : ∃ L', L' = (fillL (loadL L) n L p ws).2 := ⟨_, rfl⟩
    have hfk : fillL (loadL L) n L p ws = (0, L') := by rw [hL']; exact Prod.ext hR0 rfl
    obtain ⟨line, q1, q2, q3, q4, q5, q6, q7, q8, q9⟩ := fill_keeps hok hn hlen hfk
    rw [← hL'] at hm10
    have hbl : b.1 = (line : Int) := by
      rcases hpl q5 with h | h
      · rw [← h]; exact q1
      · have hF0 : (followL (loadL L) n p).2 = 0 := by
          by_cases h0 : (followL (loadL L) n p).2 ≠ 0
          · unfold fillL at hfk; rw [if_pos h0] at hfk; exact absurd (Prod.mk.inj hfk).1 h0
          · exact Decidable.not_not.1 h0
        rw [(follow_class hF0).1] at h; cases h
    clear hpl hfk hL' hR0
    refine ⟨_, B8T.cell rfl, ?_⟩
    refine call (Seen_gen hm10 hg10) ?_
    rintro _ w11 ⟨t11, bq, rfl, hbq, BQ⟩
    rw [q7, hlen]
    rw [hlen] at hSl
    have z11 := t11.size
    have B8V := B8T.ext t11
    have B11V := B11T.ext t11
    have BOV := BOT.ext t11
    have hm11 := hm10.ext t11
    have hG11 : ∀ c ∈ G1, c < w10.heap.size := hm10.lt
    refine ⟨fun _ => ?_, fun h => absurd rfl h⟩
    refine ⟨_, B11V.cell rfl, ((ws.length / 8 : Nat) : Int), by decide, by rw [IntWalk.i64_quo _ _ (by omega)]; omega, ((line + ws.length / 8 : Nat) : Int), by rw [hbl, w64 (by omega)]; omega, fun hge' => ?_, fun _ => ?_⟩
    · have hge'' : ((n : Nat) : Int) ≤ ((line + ws.length / 8 : Nat) : Int) := hge'
      omega
    have hrows : Rows8 (seenL L) := fun s hs => (hS8 s hs).len
    have hmr := fun k hk => modS_rows hrows (8 * line + 1) ws k hk
    rw [hSl] at hmr
    have hboq : bo ≠ bq := by omega
    have hWV : SliZD w11 (.slice aW ws.length cW) ws.length (i64s ws) fun c => c < w.heap.size := ((hW5.ext t59).tr st10.tr (fun c hc hd => by have := f1 c hc; omega)).ext t11
    have hbw : w2.heap.size ≤ bo := by have := hp.tr.size; have := t35.size; omega
    have hb11b : b11 ≠ bo := by have := B11.lt; omega
    have hb8b : b8 ≠ bo := by have := B8.lt; omega
    refine loop_rule cx_ok (fun (k : Nat) W => k ≤ ws.length ∧ Tr [bo] w11 W ∧ Blk W bo (scells (modS (seenL L) (8 * line + 1) ws k)) 69)
      (fun k : Nat => [(2, .slice aW ws.length cW), (7, .bool true), (8, .pointer (some ⟨b8, 0, none⟩)), (11, .pointer (some ⟨b11, 0, none⟩)), (12, .int .i64 p), (13, .slice (some ⟨bo, 0, none⟩) n n), (14, .slice (some ⟨bq, 0, none⟩) n n), (15, .int .i64 (k : Nat))]) (fun k => ws.length - k) 0
      ⟨rfl, rfl, rfl, rfl, rfl, rfl, rfl, rfl, trivial⟩ ⟨by omega, Tr.refl _ _, BOV⟩ ?_
    rintro k W ⟨hk, tW, BW⟩
    refine ⟨fun hlt => ?_, fun hge' => ?_⟩
    · have hkl : k < ws.length := by omega
      have hxi : ws[k]? = some ws[k] := List.getElem?_eq_getElem hkl
      have hgd : ws.getD k 0 = ws[k] := by rw [List.getD_eq_getElem?_getD, hxi]; rfl
      obtain ⟨hw1, hw2⟩ := toNat_word (q6 ws[k] (List.getElem_mem _))
      have hc1 := tW.cell (B11V.cell (o := 0) rfl) (by simp; exact hb11b)
      rw [hbl] at hc1
      refine ⟨_, hc1, 8 * (line : Int), by rw [w64 (by omega)], 8 * (line : Int) + 1, by rw [w64 (by omega)], ((8 * line + 1 + k : Nat) : Int), by rw [w64 (by omega)]; omega, ?_⟩
      obtain ⟨g', o', hga', _, hgw, hcs'⟩ := hWV.head (by omega)
      subst hga'
      have hgb : g' ∉ [bo] := by simp; omega
      have hc2 : W.cell? ⟨g', o' + k * 1, none⟩ = some (.int .i64 ws[k]) := by rw [Nat.mul_one]; exact tW.cell (hcs' k _ (i64s_get hxi)) hgb
      obtain ⟨hr1, hr2⟩ := hmr k (by omega)
      refine draw_rule cx_ok [bo] (Plan.takes [0, 1, 2, 3, 4, 5, 6, 7, 8, 9, 10] (.one true 11 .done)) (by kernel_rfl) ?_
      intro W1 d
      refine ⟨(((8 * line + 1 + k) / 8 : Nat) : Int), by decide, by rw [IntWalk.i64_quo _ _ (by omega)]; omega, (((8 * line + 1 + k) % 8 : Nat) : Int), by decide, by rw [IntWalk.rem_in _ _ (by omega)]; omega, k, rfl, hkl, _, fun w' t => t.cell hc2 hgb, (8 * line + 1 + k) / 8, rfl, by omega, (8 * line + 1 + k) % 8, rfl, by omega, ?_⟩
      have BW1 := BW.ext d.tr
      have hsl : (scells (modS (seenL L) (8 * line + 1) ws k)).length = n * 8 := by
        unfold scells
        rw [fm_len (k := 8) (fun r hr => by simp [wcells, hr1 r hr]), hr2]
      refine ⟨⟨_, _, BW1, by rw [hsl]; show 0 + (8 * line + 1 + k) / 8 * 8 + (8 * line + 1 + k) % 8 * 1 < n * 8; omega, rfl, fun W2 u2 => ?_⟩, trivial⟩
      have q2' : Tr [bo] W W2 := d.tr.of_ext.trans u2.tr (fun _ h => h) (fun _ h _ => h)
      refine ⟨q2', ?_⟩
      refine ⟨((k + 1 : Nat) : Int), by rw [w64 (by omega)]; omega, rfl, k + 1, ⟨rfl, rfl, rfl, rfl, rfl, rfl, rfl, rfl, trivial⟩, ⟨hkl, tW.same q2', ?_⟩, by omega⟩
      have hb' := u2.blk
      have e8 : 0 + (8 * line + 1 + k) / 8 * 8 + (8 * line + 1 + k) % 8 * 1 = (8 * line + 1 + k) / 8 * 8 + (8 * line + 1 + k) % 8 := by omega
      have hb' : Blk W2 bo ((scells (modS (seenL L) (8 * line + 1) ws k)).set (0 + (8 * line + 1 + k) / 8 * 8 + (8 * line + 1 + k) % 8 * 1) (.int .i64 ws[k])) 69 := hb'
      rw [e8, ← hw1, scells_set hr1 (by omega) (by omega)] at hb'
      rw [← hgd] at hb'
      exact hb'
    obtain rfl : k = ws.length := by omega
    rw [← q8] at BW
    clear hge' hk hmr
    have bog1 : bo ∉ G1 := fun h => (hg1 bo h).elim hboF (fun h => by omega)
    have hmW := hm11.tr tW (fun c hc hm' => by simp at hc; subst hc; exact bog1 hm')
    have B8W := B8V.tr tW (by simp; exact hb8b)
    have t2W : Tr [] w2 W := (t2_10.1.ext t11).trans tW (fun _ h => h) (fun c hc hlt => by simp at hc; omega)
    have hgW := (hg.ext t02).ext t2W
    refine ⟨_, B8W.cell rfl, ?_⟩
    refine call (Fence_gen hmW hgW (by omega)) ?_
    rintro _ w12 ⟨H1, hm12, st12⟩
    have t2_12 := fresh_step t2W t2_10.2 st12
    have hb8G : b8 ∉ G1 := fun h => (hg1 b8 h).elim hb81 (fun h => by have := B8.lt; have := t59.size; omega)
    have B812 := B8W.tr st12.tr hb8G
    have hg12 := (hg.ext t02).ext t2_12.1
    refine ⟨_, B812.cell rfl, ?_⟩
    refine call (Crash_gen hm12 hg12 (by omega) (s := .slice none 0 0) (cs := []) (by simp) (by decide) (D := fun _ => False) ⟨none, 0, rfl, Nat.le_refl _, .inl rfl⟩ (fun _ h => h.elim)) ?_
    rw [crash_nil]
    rintro _ w13 ⟨rfl, span'', J1, hm13, st13⟩
    have t2_13 := fresh_step t2_12.1 t2_12.2 st13
    have hH1 : ∀ c ∈ H1, c ∈ G1 ∨ W.heap.size ≤ c := fun c hc => st12.sub c hc
    have zW := tW.size
    have hb8H : b8 ∉ H1 := fun h => (hH1 b8 h).elim hb8G (fun h => by have := B8.lt; have := t59.size; omega)
    have B813 := B812.tr st13.tr hb8H
    have hg13 := (hg.ext t02).ext t2_13.1
    have hbqW : bq < W.heap.size := by have := BQ.lt; omega
    have hboW : bo < W.heap.size := BW.lt
    have bqG : bq ∉ G1 := fun h => by have := hG11 bq h; omega
    have BQ13 : Blk w13 bq (scells (seenL L')) 69 := (((BQ.tr tW (by simp; exact fun e => hboq e.symm))).tr st12.tr bqG).tr st13.tr (fun h => (hH1 bq h).elim bqG (fun h => by omega))
    have BO13 : Blk w13 bo (scells (seenL L')) 69 := (BW.tr st12.tr bog1).tr st13.tr (fun h => (hH1 bo h).elim bog1 (fun h => by omega))
    have hdv : ∀ c ∈ FV, c ∉ G1 ∧ c ∉ H1 ∧ c ≠ bo := fun c hc => by
      have hc3 := hp.view.lt c hc
      have h35 := t35.size
      have h59 := t59.size
      have hcg : c ∉ G1 := fun h => (hg1 c h).elim (fun h => hp.d2 c h hc) (fun h => by omega)
      exact ⟨hcg, fun h => (hH1 c h).elim hcg (fun h => by omega), by omega⟩
    have hv13 : RdV w13 133 v m [] := by
      have hvm : VMem w10 133 v m [] FV := ((VMem.ext hp.view t35).ext t59).tr st10.tr (fun c hc hm' => hp.d2 c hc hm')
      exact ((((VMem.ext hvm t11).tr tW (fun c hc hm' => by simp at hc; exact (hdv c hm').2.2 hc)).tr st12.tr (fun c hc hm' => (hdv c hm').1 hc)).tr st13.tr (fun c hc hm' => (hdv c hm').2.1 hc)).rd
    have hok13 := hm13.ok
    have hfc : List.map Ln.clear (fenceL L') = fcL L' := rfl
    rw [hfc] at hm13 hok13
    have hlfc : (fcL L').length = n := by rw [fcL_len, q7]
    have hwe := words_err (p := p) hok13 hn hlfc
    refine ⟨_, B813.cell rfl, _, hlay B813, rfl, ?_⟩
    have hlv : IsLoad w13 70 v (loadL (fcL L')) := VLoad_calls hv13 (by decide) (hm13.load hg13)
    refine call (Words_calls hg13 (loadL_ok hok13) hn hlv p hpi) ?_
    rintro _ w14 ⟨t14, sc, rfl, hsc⟩
    generalize wordsL (loadL (fcL L')) n p = X at *
    have hWW : SliZD w14 (.slice aW ws.length cW) ws.length (i64s ws) fun c => c < w.heap.size := (((hWV.tr tW (fun c hc hd => by simp at hc; omega)).tr st12.tr (fun c hc hd => by have := t2_10.2 c hc; omega)).tr st13.tr (fun c hc hd => by have := t2_12.2 c hc; omega)).ext t14
    obtain ⟨asc, csc, rfl⟩ := hsc.slice
    refine loop_rule cx_ok (fun (k : Nat) U => k ≤ ws.length ∧ Tr [] w14 U)
      (fun k : Nat => [(2, .slice aW ws.length cW), (7, .bool true), (13, .slice (some ⟨bo, 0, none⟩) n n), (14, .slice (some ⟨bq, 0, none⟩) n n), (17, .slice asc X.1.length csc), (18, .int .i64 X.2), (19, .bool true), (20, .int .i64 (k : Nat))]) (fun k => ws.length - k) 0
      ⟨rfl, rfl, rfl, rfl, rfl, rfl, rfl, rfl, trivial⟩ ⟨by omega, Tr.refl _ _⟩ ?_
    rintro k U ⟨hk, tU⟩
    have hB : ∀ U', Tr [] w14 U' → Blk U' bo (scells (seenL L')) 69 ∧ Blk U' bq (scells (seenL L')) 69 := fun U' t => ⟨(BO13.ext t14).ext t, (BQ13.ext t14).ext t⟩
    have hokL' : LOk L' := hm10.ok
    have hsS := seenL_ok hokL'
    have fin : ∀ (U' : World), Tr [] w14 U' → Calls cx.P 32 #[.slice (some ⟨bq, 0, none⟩) n n, .slice (some ⟨bo, 0, none⟩) n n] U' (Ret fun v w' => v = .bool true ∧ Tr [] U' w') := fun U' t =>
      SameSeen_calls (seenL L') hsS n (by rw [seenL_len, q7]) (by omega) ⟨_, _, rfl, Nat.le_refl _, .inr ⟨bq, 0, rfl, (hB U' t).2.all⟩⟩ ⟨_, _, rfl, Nat.le_refl _, .inr ⟨bo, 0, rfl, (hB U' t).1.all⟩⟩
    have tend : ∀ U' U'', Tr [] w14 U' → Tr [] U' U'' → Tr [] w U'' := fun U' U'' t t' => t02.ext (t2_13.1.ext (t14.ext (t.ext t')))
    refine ⟨fun hlt => ?_, fun hge' => ?_⟩
    · refine ⟨fun herr => ?_, fun herr => ?_⟩
      · have hkl : k < ws.length := by omega
        obtain ⟨hX1, hX2⟩ := q9 herr
        have hxi : ws[k]? = some ws[k] := List.getElem?_eq_getElem hkl
        obtain ⟨g', o', hga', _, hgw, hcs'⟩ := hWW.head (by omega)
        subst hga'
        have hc2 : U.cell? ⟨g', o' + k * 1, none⟩ = some (.int .i64 ws[k]) := by rw [Nat.mul_one]; exact tU.cell (hcs' k _ (i64s_get hxi)) (by simp)
        obtain ⟨g2, o2, hga2, _, hcx⟩ := hsc.sli.head (by omega)
        subst hga2
        have hc3 : U.cell? ⟨g2, o2 + k * 1, none⟩ = some (.int .i64 ws[k]) := by rw [Nat.mul_one]; exact tU.cell (hcx k _ (i64s_get ((hX2 k hkl).trans hxi))) (by simp)
        refine draw_rule cx_ok [] (Plan.takes [0, 1, 2, 3, 4, 5, 6, 7, 8, 9, 10, 11, 12] .done) (by kernel_rfl) ?_
        intro W1 d
        refine ⟨k, rfl, by omega, _, fun w' t => t.cell hc3 (by simp), k, rfl, hkl, _, fun w' t => t.cell hc2 (by simp), fun _ => ?_, fun h => absurd rfl h⟩
        exact ⟨((k + 1 : Nat) : Int), by rw [w64 (by omega)]; omega, rfl, k + 1, ⟨rfl, rfl, rfl, rfl, rfl, rfl, rfl, rfl, trivial⟩, ⟨hkl, tU.ext d.tr⟩, by omega⟩
      · refine call (fin U tU) ?_
        rintro _ U2 ⟨rfl, t⟩
        have te := tend U U2 tU t
        refine ⟨fun h => absurd h herr, fun _ => ⟨fun _ => ⟨rfl, te⟩, fun h9 => ⟨fun _ => ⟨rfl, te⟩, fun h70 => ⟨fun _ => ⟨rfl, te⟩, fun h1' => ⟨fun _ => ⟨rfl, te⟩, fun h3' => ?_⟩⟩⟩⟩⟩
        exact absurd hwe (by omega)
    · refine call (fin U tU) ?_
      rintro _ U2 ⟨rfl, t⟩
      have te := tend U U2 tU t
      refine ⟨fun _ => ⟨rfl, te⟩, fun h0' => ⟨fun _ => ⟨rfl, te⟩, fun h9 => ⟨fun _ => ⟨rfl, te⟩, fun h70 => ⟨fun _ => ⟨rfl, te⟩, fun h1' => ⟨fun _ => ⟨rfl, te⟩, fun h3' => ?_⟩⟩⟩⟩⟩
      exact absurd hwe (by omega)

end Go.Proofs.YthepaakejpbppaaGreatDoor
