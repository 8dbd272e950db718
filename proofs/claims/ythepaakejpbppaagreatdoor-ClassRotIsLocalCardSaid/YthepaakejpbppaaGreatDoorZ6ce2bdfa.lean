/- Part 5 of the proof: O5, O6, O7, O8, O9, X1, Y0, Y1 -/
import Derived.Test.YthepaakejpbppaaGreatDoorZdb02f082

/- Plan of 64 to 103 lines. -/
namespace Go.Proofs.YthepaakejpbppaaGreatDoor
open Go.E

theorem min_run (P : Program) (a b : Int) (t : Nat) (ats : Array TypeId) (w : World) : (Builtin.min_ ats t #[.int .i64 a, .int .i64 b]).run P w = .ok (.int .i64 (if b < a then b else a)) w := by
  simp [Builtin.min_, Builtin.min2]

def lcN (a b c d e f g h : Int) : List Value := [.int .i64 a, .int .i64 b, .int .i64 c, .int .i64 d, .int .i64 e, .int .i64 f, .int .i64 g, .int .i64 h]

set_option maxHeartbeats 1000000 in
theorem Plan_calls (n : Nat) (hn : InL n) (w : World) :
    Calls cx.P 42 #[.int .i64 (n : Nat)] w (Ret fun v w' => v = .tuple #[.agg (lcs n).toArray, .int .i64 0] ∧ Tr [] w w') := by
  have h64 : 64 ≤ n ∧ n ≤ 103 := hn
  refine calls_body cx_ok (args := [.int .i64 (n : Nat)]) Tryz.func42 rfl 58 rfl rfl [.cell 2 28, .tmp 3] rfl ?_
  intro b2 w1 n1
  have e1 := n1.num; have z1 := n1.size
  have B2 : Blk w1 b2 (lcN 0 0 0 0 0 0 0 0) 28 := n1.blk
  refine ⟨fun h => absurd h (by omega), fun _ => ⟨fun h => absurd h (by omega), fun _ => ?_⟩⟩
  refine ⟨_, rfl, ?_⟩
  intro b4 w2 n2
  have e2 := n2.num; have z2 := n2.size
  refine ⟨_, _, n2.blk, rfl, by show 0 + 8 ≤ 8; decide, rfl, fun w3 u3 => ?_⟩
  have z3 := u3.size
  have B4 : Blk w3 b4 (lcN n 2 0 0 0 0 0 0) 28 := u3.blk
  have t3 : Tr [] w1 w3 := u3.ext n2.tr (by omega)
  refine ⟨((n / 16 : Nat) : Int), by decide, by rw [IntWalk.i64_quo _ _ (by omega)]; omega, _, w3, max_run _ _ _ _ _ _, ?_⟩
  have hx : (if ((n / 16 : Nat) : Int) > 8 then ((n / 16 : Nat) : Int) else 8) = 8 := by rw [if_neg (by omega)]
  rw [hx]
  refine ⟨_, _, B4, by show 0 + 2 < 8; decide, rfl, fun w4 u4 => ?_⟩
  have z4 := u4.size
  have B4 : Blk w4 b4 (lcN n 2 8 0 0 0 0 0) 28 := u4.blk
  have t4 : Tr [] w1 w4 := u4.ext t3 (by omega)
  refine ⟨_, B4.cell rfl, _, B4.cell rfl, 10, by decide, _, _, B4, by show 0 + 3 < 8; decide, rfl, fun w5 u5 => ?_⟩
  have z5 := u5.size
  have B4 : Blk w5 b4 (lcN n 2 8 10 0 0 0 0) 28 := u5.blk
  have t5 : Tr [] w1 w5 := u5.ext t4 (by omega)
  refine ⟨((n / 32 : Nat) : Int), by decide, by rw [IntWalk.i64_quo _ _ (by omega)]; omega, _, w5, max_run _ _ _ _ _ _, _, w5, min_run _ _ _ _ _ _, ?_⟩
  have hx : (if (if ((n / 32 : Nat) : Int) > 4 then ((n / 32 : Nat) : Int) else 4) < 16 then (if ((n / 32 : Nat) : Int) > 4 then ((n / 32 : Nat) : Int) else 4) else 16) = 4 := by rw [if_neg (show ¬ ((n / 32 : Nat) : Int) > 4 by omega)]; rfl
  rw [hx]
  refine ⟨_, _, B4, by show 0 + 4 < 8; decide, rfl, fun w6 u6 => ?_⟩
  have z6 := u6.size
  have B4 : Blk w6 b4 (lcN n 2 8 10 4 0 0 0) 28 := u6.blk
  have t6 : Tr [] w1 w6 := u6.ext t5 (by omega)
  refine ⟨_, B4.cell rfl, _, B4.cell rfl, 14, by decide, _, _, B4, by show 0 + 5 < 8; decide, rfl, fun w7 u7 => ?_⟩
  have z7 := u7.size
  have B4 : Blk w7 b4 (lcN n 2 8 10 4 14 0 0) 28 := u7.blk
  have t7 : Tr [] w1 w7 := u7.ext t6 (by omega)
  refine ⟨_, B4.cell rfl, ((n / 16 : Nat) : Int), by decide, by rw [IntWalk.i64_quo _ _ (by omega)]; omega, ((n / 16 + 7 : Nat) : Int), by rw [w64 (by omega)]; omega, 1, by decide, by rw [IntWalk.i64_quo _ _ (by omega)]; omega, 15, by decide, _, _, B4, by show 0 + 6 < 8; decide, rfl, fun w8 u8 => ?_⟩
  have z8 := u8.size
  have B4 : Blk w8 b4 (lcN n 2 8 10 4 14 15 0) 28 := u8.blk
  have t8 : Tr [] w1 w8 := u8.ext t7 (by omega)
  refine loop_rule cx_ok (fun (k : Nat) W => k ≤ 1 ∧ Tr [] w1 W ∧ Blk W b4 (lcN n 2 8 10 4 14 (15 + (k : Nat)) 0) 28) (fun k : Nat => [(0, .int .i64 (n : Nat)), (2, .pointer (some ⟨b2, 0, none⟩)), (4, .pointer (some ⟨b4, 0, none⟩))]) (fun k => 1 - k) 0 ⟨rfl, rfl, rfl, trivial⟩ ⟨by omega, t8, B4⟩ ?_
  rintro k W ⟨hk, tW, BW⟩
  have zW := tW.size
  refine ⟨_, BW.cell rfl, _, by decide, IntWalk.rem_in _ _ (by omega), fun heq => ?_, fun hne => ?_⟩
  · obtain rfl : k = 1 := by omega
    refine ⟨_, BW.cell rfl, ((n - 16 : Nat) : Int), by rw [w64 (by omega)]; omega, ((chunksN n : Nat) : Int), by decide, ?_, _, _, BW, by show 0 + 7 < 8; decide, rfl, fun w9 u9 => ?_⟩
    · rw [IntWalk.i64_quo _ _ (by omega)]; unfold chunksN; omega
    have z9 := u9.size
    have B9 : Blk w9 b4 (lcs n) 28 := u9.blk
    have t9 : Tr [] w1 w9 := u9.ext tW (by omega)
    refine ⟨_, B9.all, rfl, _, _, B2.ext t9, rfl, by show 0 + 8 ≤ 8; decide, rfl, fun w10 u10 => ?_⟩
    exact ⟨_, u10.blk.all, rfl, rfl, u10.ext (n1.tr.ext t9) (by omega)⟩
  · obtain rfl : k = 0 := by omega
    refine ⟨_, BW.cell rfl, 16, by decide, _, _, BW, by show 0 + 6 < 8; decide, rfl, fun w9 u9 => ?_⟩
    exact ⟨rfl, 1, ⟨rfl, rfl, rfl, trivial⟩, ⟨by omega, u9.ext tW (by omega), u9.blk⟩, by omega⟩

end Go.Proofs.YthepaakejpbppaaGreatDoor

/- class: Fit; what the examples come to. -/
namespace Go.Proofs.YthepaakejpbppaaGreatDoor
open Go.E

def fitL (x : Int) : Int × Int := if x < 0 then (0, 1) else if x ≤ 7 then (0, 0) else if x ≤ 15 then (1, 0) else if x ≤ 31 then (2, 0) else if x ≤ 63 then (3, 0) else if x ≤ 127 then (4, 0) else (0, 2)

theorem room_at : ∀ k : Nat, k < 5 → roomP k = [7, 15, 31, 63, 127].getD k 0 := by decide

theorem Fit_calls (x : Int) (w : World) : Calls cx.P 44 #[.int .i64 x] w (Ret fun v w' => v = .tuple #[.int .i64 (fitL x).1, .int .i64 (fitL x).2] ∧ w = w') := by
  refine calls_body cx_ok (args := [.int .i64 x]) Tryz.func44 rfl 16 rfl rfl [.tmp 2, .tmp 3] rfl ?_
  refine ⟨fun h0 => ⟨by unfold fitL; rw [if_pos h0]; rfl, rfl⟩, fun h0 => ?_⟩
  refine loop_rule cx_ok (fun (k : Nat) W => (k ≤ 5 ∧ ∀ c, c < k → roomP (c : Nat) < x) ∧ w = W) (fun k : Nat => [(0, .int .i64 x), (7, .int .i64 (k : Nat))]) (fun k => 5 - k) 0 ⟨rfl, rfl, trivial⟩ ⟨⟨by omega, fun c hc => by omega⟩, rfl⟩ ?_
  rintro k _ ⟨⟨hk, hno⟩, rfl⟩
  have h5 : ∀ c, c < k → [7, 15, 31, 63, 127].getD c 0 < x := fun c hc => by rw [← room_at c (by omega)]; exact hno c hc
  refine ⟨fun hlt => ?_, fun hge => ?_⟩
  · have hk5 : k < 5 := by omega
    refine call (Room_calls (k : Nat) w) ?_
    rintro _ _ ⟨rfl, rfl⟩
    refine ⟨fun hge => ?_, fun hlt2 => ?_⟩
    · have hr := room_at k hk5
      have hge' : x ≤ roomP (k : Nat) := hge
      rw [hr] at hge'
      refine ⟨?_, rfl⟩
      have : fitL x = (((k : Nat) : Int), 0) := by
        unfold fitL
        rw [if_neg h0]
        rcases k with _ | _ | _ | _ | _ | k
        · rw [if_pos (by simp at hge'; omega)]; rfl
        · have := h5 0 (by omega); rw [if_neg (by simp at this; omega), if_pos (by simp at hge'; omega)]; rfl
        · have := h5 1 (by omega); rw [if_neg (by simp at this; omega), if_neg (by simp at this; omega), if_pos (by simp at hge'; omega)]; rfl
        · have := h5 2 (by omega); rw [if_neg (by simp at this; omega), if_neg (by simp at this; omega), if_neg (by simp at this; omega), if_pos (by simp at hge'; omega)]; rfl
        · have := h5 3 (by omega); rw [if_neg (by simp at this; omega), if_neg (by simp at this; omega), if_neg (by simp at this; omega), if_neg (by simp at this; omega), if_pos (by simp at hge'; omega)]; rfl
        · omega
      rw [this]; rfl
    · refine ⟨((k + 1 : Nat) : Int), by rw [w64 (by omega)]; omega, ?_⟩
      refine ⟨rfl, k + 1, ⟨rfl, rfl, trivial⟩, ⟨⟨by omega, fun c hc => ?_⟩, rfl⟩, by omega⟩
      by_cases hck : c = k
      · subst hck
        have : ¬ x ≤ roomP (c : Nat) := hlt2
        omega
      · exact hno c (by omega)
  · obtain rfl : k = 5 := by omega
    have := h5 4 (by omega)
    simp at this
    refine ⟨?_, rfl⟩
    have : fitL x = (0, 2) := by unfold fitL; rw [if_neg h0, if_neg (by omega), if_neg (by omega), if_neg (by omega), if_neg (by omega), if_neg (by omega)]
    rw [this]; rfl

/-- The lines of the examples. -/
def L0 : List Ln := List.replicate 64 (quiet zeros8)
def L1 : List Ln := (putL L0 112 4).2
def L2 : List Ln := (putL L1 192 306).2
def L3 : List Ln := flushK (storeK L2 193 [5, 6] 2) 24 1

theorem ex_assigned : assignedL (loadL L0) 64 0 = (-1, 0) := by decide +kernel
theorem ex_scanC : scanC (loadL L0) 64 = [-1, -1, -1] := by decide +kernel
theorem ex_scanB : scanB (loadL L0) 64 = [] := by decide +kernel
theorem ex_of : ofL (loadL L1) 64 25 = (24, 0) := by decide +kernel
theorem ex_block : blockL (loadL L1) 64 24 = ((24, 3, 0, 0), 0) := by decide +kernel
theorem ex_node : followL (loadL L2) 64 8216 = ((24, 3, 2, 2), 0) := by decide +kernel
theorem ex_stale : followL (loadL L2) 64 4120 = (bz, 70) := by decide +kernel
theorem ex_arg : followL (loadL L2) 64 8217 = (bz, 1) := by decide +kernel
theorem ex_state : stateI L2 24 = 0 := by decide +kernel
theorem ex_words : (wordsL (loadL L3) 64 8216).2 = 0 ∧ (wordsL (loadL L3) 64 8216).1.length = 63 ∧ (wordsL (loadL L3) 64 8216).1.take 3 = [5, 6, 0] := by decide +kernel
theorem ex_fill : fillL (loadL L2) 64 L2 8216 [5, 6] = (0, L3) := by
  unfold fillL
  rw [ex_node]
  rw [if_neg (by decide), if_neg (by decide), if_neg (by decide), if_neg]
  · rfl
  · rintro ⟨_, j, hj, h2⟩
    have : j = 0 := by simpa using hj
    subst this
    rw [show (24 : Int) + ((0 : Nat) : Int) = 24 by omega] at h2
    rw [ex_state] at h2
    exact absurd h2 (by decide)
theorem ex_fit : fitL 8 = (1, 0) ∧ fitL 128 = (0, 2) ∧ fitL (-1) = (0, 1) ∧ roomP 4 = 127 ∧ roomP 5 = 0 ∧ startsL 64 1 3 = [32, 40] := by decide
theorem InL64 : InL 64 := ⟨by decide, by decide⟩

end Go.Proofs.YthepaakejpbppaaGreatDoor

/- class: the examples hold. -/
namespace Go.Proofs.YthepaakejpbppaaGreatDoor
open Go.E

theorem fresh_step {w0 w w' : World} {F F' : List Nat} (t : Tr [] w0 w) (hF : ∀ b ∈ F, w0.heap.size ≤ b) (s : Step w w' F F') : Tr [] w0 w' ∧ ∀ b ∈ F', w0.heap.size ≤ b :=
  ⟨t.trans s.tr (fun _ h => h) (fun b hb hlt => by have := hF b hb; omega), fun b hb => (s.sub b hb).elim (hF b) (fun h => Nat.le_trans t.size h)⟩

theorem New_mem (w : World) (hg : Gl w) (n : Nat) (h1 : 1 ≤ n) (hn : n ≤ 4096) :
    Calls cx.P 43 #[.int .i64 (n : Nat)] w (Ret fun v w' => Tr [] w w' ∧ ∃ p F, v = .pointer (some ⟨p, 0, none⟩) ∧ IMem w' p (List.replicate n (quiet zeros8)) 0 0 F ∧ ∀ b ∈ F, w.heap.size ≤ b) := by
  refine (New_calls w hg n h1 hn).mono fun e w' ⟨v, he, t, p, bl, bm, F, hv, hF, hm, hge⟩ => ⟨v, he, t, p, F, hv, ⟨bl, bm, _, _, 0, hm, by rw [List.map_replicate], Nat.le_refl _, fun l hl => ?_, hF⟩, hge⟩
  rw [List.eq_of_mem_replicate hl]
  exact Nat.le_refl _

theorem not_step {w w' : World} {F F' : List Nat} {b : Nat} (s : Step w w' F F') (h : b ∉ F) (hb : b < w.heap.size) : b ∉ F' := fun hm => (s.sub b hm).elim h (fun hh => by omega)

theorem under_view : cx.P.underlying 30 = some (.pointer 133) := by kernel_rfl

set_option maxHeartbeats 4000000 in
set_option maxRecDepth 100000 in
theorem sanity_calls (w : World) (hg : Gl w) : Calls cx.P 9 #[] w (Ret fun v w' => v = .bool true ∧ Tr [] w w') := by
  refine calls_body cx_ok (args := []) Tryz.func9 rfl 241 rfl rfl [.tmp 0] rfl ?_
  refine call (Plan_calls 64 InL64 w) ?_
  rintro _ w1 ⟨rfl, t1⟩
  intro b1 w2 n2
  have e2 := n2.num; have z2 := n2.size; have z1 := t1.size
  refine ⟨_, _, n2.blk, rfl, by show 0 + 8 ≤ 8; decide, rfl, fun w3 u3 => ?_⟩
  have z3 := u3.size
  have BL : Blk w3 b1 (lcs 64) 28 := u3.blk
  have t3 : Tr [] w w3 := u3.ext (t1.ext n2.tr) (by omega)
  refine call (New_mem w3 (hg.ext t3) 64 (by decide) (by decide)) ?_
  rintro _ w4 ⟨t34, m, F0, rfl, hm0, hF0⟩
  have z34 := t34.size
  have hm0 : IMem w4 m L0 0 0 F0 := hm0
  have BL4 := BL.ext t34
  refine ⟨.bool false, w4, ptr_nil rfl under_mem _ _ _ w4, ?_⟩
  refine call (Fit_calls 8 w4) ?_
  rintro _ _ ⟨rfl, rfl⟩
  refine call (Fit_calls 128 w4) ?_
  rintro _ _ ⟨rfl, rfl⟩
  refine call (Fit_calls (-1) w4) ?_
  rintro _ _ ⟨rfl, rfl⟩
  obtain ⟨x1, x2, x3, x4, x5, x6⟩ := ex_fit
  rw [x1, x2, x3]
  refine ⟨fun _ => ⟨fun _ => ⟨fun _ => ⟨fun _ => ?_, fun h => absurd rfl h⟩, fun h => absurd rfl h⟩, fun h => absurd rfl h⟩, fun h => absurd rfl h⟩
  refine call (Room_calls 4 w4) ?_
  rintro _ _ ⟨rfl, rfl⟩
  rw [x4]
  refine ⟨fun _ => ?_, fun h => absurd rfl h⟩
  refine call (Room_calls 5 w4) ?_
  rintro _ _ ⟨rfl, rfl⟩
  rw [x5]
  refine ⟨fun _ => ?_, fun h => absurd rfl h⟩
  -- starts
  refine ⟨_, BL4.all, rfl, ?_⟩
  refine call (Starts_calls w4 InL64 1 3 ⟨by decide, by decide⟩) ?_
  rintro sv w5 ⟨t45, hr5, hf5⟩
  rw [x6] at hr5
  refine ⟨_, rfl, fun b6 w6 n6 => ?_⟩
  refine call (SameI_calls w6 [32, 40] [32, 40] (by decide) sv _ (Row.sli (Row.tr hr5 n6.tr (by simp))) ⟨_, _, rfl, Nat.le_refl _, .inr ⟨b6, 0, rfl, n6.blk.all⟩⟩) ?_
  rintro _ w7 ⟨rfl, t67⟩
  rw [decide_eq_true rfl]
  have t47 := (t45.ext n6.tr).ext t67
  have z47 := t47.size
  have hg4 := hg.ext (t3.ext t34)
  -- assigned
  refine ⟨_, (BL4.ext t47).all, rfl, ?_⟩
  refine call (Assigned_calls (hm0.ext t47) (hg4.ext t47) InL64 0) ?_
  rintro _ w8 ⟨rfl, t78⟩
  rw [ex_assigned]
  have t48 := t47.ext t78
  -- scan
  refine ⟨_, (BL4.ext t48).all, rfl, ?_⟩
  refine call (Scan_calls (hm0.ext t48) (hg4.ext t48) InL64) ?_
  rintro pv w9 ⟨t89, s1, s2, s3, rfl, hs1, hs2, hs3⟩
  rw [ex_scanC] at hs1
  rw [ex_scanB] at hs2
  have z89 := t89.size
  have t49 := t48.ext t89
  obtain ⟨a1, c1, hs1e⟩ := hs1.slice
  obtain ⟨a2, c2, hs2e⟩ := hs2.slice
  obtain ⟨a3, c3, hs3e⟩ := hs3.slice
  subst hs1e; subst hs2e; subst hs3e
  intro b14 w10 n10
  have e10 := n10.num; have z10 := n10.size
  refine ⟨_, _, n10.blk, rfl, by show 0 + 3 ≤ 3; decide, rfl, fun w11 u11 => ?_⟩
  have z11 := u11.size
  have BP : Blk w11 b14 [.slice a1 3 c1, .slice a2 0 c2, .slice a3 (scanX (loadL L0) 64).length c3] 59 := u11.blk
  have t4_11 : Tr [] w4 w11 := u11.ext (t49.ext n10.tr) (by have := t49.size; omega)
  have z4_11 := t4_11.size
  have zl4 := hm0.lt
  -- the chunk word
  have BL11 := BL4.ext t4_11
  have hb1F : b1 ∉ F0 := fun hm => by have := hF0 b1 hm; omega
  refine ⟨_, BL11.cell rfl, 112, by decide, ?_⟩
  refine call (Store_gen (hm0.ext t4_11) (hg4.ext t4_11) (by decide) 112 4 ⟨by decide, by decide⟩) ?_
  rintro _ w12 ⟨rfl, F1, hm1, st1⟩
  have hm1 : IMem w12 m L1 0 1 F1 := hm1
  have hg12 : Gl w12 := (hm0.ext t4_11).gl (hg4.ext t4_11) st1
  have BL12 := BL11.tr st1.tr hb1F
  have hb14F : b14 ∉ F0 := fun hm => by have := zl4 b14 hm; have := t49.size; omega
  have BP12 := BP.tr st1.tr hb14F
  have hb1F1 := not_step st1 hb1F (by have := BL11.lt; exact this)
  have hb14F1 := not_step st1 hb14F (by have := BP.lt; exact this)
  have hsF0 : ∀ c, (w8.heap.size ≤ c ∧ c < w9.heap.size) → c ∉ F0 := fun c hc hm => by have := zl4 c hm; have := t48.size; omega
  have h911 : Tr [] w9 w11 := u11.ext n10.tr (by omega)
  have hs1' : SliD w12 (.slice a1 3 c1) 3 (i64s [-1, -1, -1]) (fun b => w8.heap.size ≤ b ∧ b < w9.heap.size) := (hs1.ext h911).tr st1.tr (fun c hc hd => hsF0 c hd hc)
  have hsF1 : ∀ c, (w8.heap.size ≤ c ∧ c < w9.heap.size) → c ∉ F1 := fun c hc => not_step st1 (hsF0 c hc) (by omega)
  -- of
  refine ⟨_, BL12.all, rfl, ?_⟩
  refine call (Of_calls hm1 hg12 InL64 25 ⟨by decide, by decide⟩) ?_
  rintro _ w13 ⟨rfl, t13⟩
  rw [ex_of]
  refine ⟨_, (BL12.ext t13).all, rfl, ?_⟩
  refine call (Block_calls (hm1.ext t13) (hg12.ext t13) InL64 24 ⟨by decide, by decide⟩) ?_
  rintro _ w14 ⟨rfl, t14⟩
  rw [ex_block]
  have t12_14 := t13.ext t14
  intro b17 w15 n15
  have e15 := n15.num; have z15 := n15.size
  refine ⟨_, _, n15.blk, rfl, by show 0 + 4 ≤ 4; decide, rfl, fun w16 u16 => ?_⟩
  have B17 : Blk w16 b17 (bcells (24, 3, 0, 0)) 44 := u16.blk
  have z16 := u16.size
  have t12_16 : Tr [] w12 w16 := u16.ext (t12_14.ext n15.tr) (by have := t12_14.size; omega)
  have zl12 := hm1.lt
  have hb17F1 : b17 ∉ F1 := fun hm => by have := zl12 b17 hm; have := t12_14.size; omega
  -- the header
  refine call (Store_gen (hm1.ext t12_16) (hg12.ext t12_16) (by decide) 192 306 ⟨by decide, by decide⟩) ?_
  rintro _ w17 ⟨rfl, F2, hm2, st2⟩
  have hm2 : IMem w17 m L2 0 2 F2 := hm2
  have hg17 : Gl w17 := (hm1.ext t12_16).gl (hg12.ext t12_16) st2
  have BL17 := (BL12.ext t12_16).tr st2.tr hb1F1
  have BP17 := (BP12.ext t12_16).tr st2.tr hb14F1
  have B17' := B17.tr st2.tr hb17F1
  have hs1'' := (hs1'.ext t12_16).tr st2.tr (fun c hc hd => hsF1 c hd hc)
  have hb1F2 := not_step st2 hb1F1 (by have := (BL12.ext t12_16).lt; exact this)
  have hb14F2 := not_step st2 hb14F1 (by have := (BP12.ext t12_16).lt; exact this)
  have hb17F2 := not_step st2 hb17F1 (by have := B17.lt; exact this)
  have z12 := st1.tr.size
  have hsF2 : ∀ c, (w8.heap.size ≤ c ∧ c < w9.heap.size) → c ∉ F2 := fun c hc => not_step st2 (hsF1 c hc) (by have := t12_16.size; omega)
  -- the view
  refine call (Over_calls w17 m) ?_
  rintro _ w18 ⟨t18, v, rfl, hv, hvge⟩
  refine ⟨.bool false, w18, ptr_nil rfl under_view _ _ _ w18, ?_⟩
  have hm18 := hm2.ext t18
  have hg18 := hg17.ext t18
  have hld := loadL_ok hm18.ok
  have ld18 : IsLoad w18 70 v (loadL L2) := VLoad_calls hv.rd (by decide) (hm18.load hg18)
  have BL18 := BL17.ext t18
  refine ⟨_, BL18.all, rfl, ?_⟩
  refine call (Follow_calls hg18 hld InL64 ld18 8216 ⟨by decide, by decide⟩) ?_
  rintro _ w19 ⟨rfl, t19⟩
  rw [ex_node]
  intro b21 w20 n20
  have e20 := n20.num; have z20 := n20.size
  refine ⟨_, _, n20.blk, rfl, by show 0 + 4 ≤ 4; decide, rfl, fun w21 u21 => ?_⟩
  have z21 := u21.size
  have B21 : Blk w21 b21 (bcells (24, 3, 2, 2)) 44 := u21.blk
  have t18_21 : Tr [] w18 w21 := u21.ext (t19.ext n20.tr) (by have := t19.size; omega)
  refine ⟨_, (BL18.ext t18_21).all, rfl, ?_⟩
  refine call (Follow_calls (hg18.ext t18_21) hld InL64 (ld18.ext t18_21) 4120 ⟨by decide, by decide⟩) ?_
  rintro _ w22 ⟨rfl, t22⟩
  rw [ex_stale]
  intro b23 w23 n23
  have e23 := n23.num; have z23 := n23.size
  refine ⟨_, _, n23.blk, rfl, by show 0 + 4 ≤ 4; decide, rfl, fun w24 u24 => ?_⟩
  have z24 := u24.size
  have t21_24 : Tr [] w21 w24 := u24.ext (t22.ext n23.tr) (by have := t22.size; omega)
  have t18_24 := t18_21.ext t21_24
  refine ⟨_, (BL18.ext t18_24).all, rfl, ?_⟩
  refine call (Follow_calls (hg18.ext t18_24) hld InL64 (ld18.ext t18_24) 8217 ⟨by decide, by decide⟩) ?_
  rintro _ w25 ⟨rfl, t25⟩
  rw [ex_arg]
  intro b25 w26 n26
  have e26 := n26.num; have z26 := n26.size
  refine ⟨_, _, n26.blk, rfl, by show 0 + 4 ≤ 4; decide, rfl, fun w27 u27 => ?_⟩
  have z27 := u27.size
  have t24_27 : Tr [] w24 w27 := u27.ext (t25.ext n26.tr) (by have := t25.size; omega)
  have t21_27 := t21_24.ext t24_27
  have t18_27 := t18_24.ext t24_27
  have BP27 := (BP17.ext t18).ext t18_27
  -- the pictures
  refine ⟨fun _ => ⟨fun _ => ?_, fun h => absurd rfl h⟩, fun h => absurd rfl h⟩
  refine ⟨_, BP27.cell rfl, _, rfl, fun b28 w28 n28 => ?_⟩
  refine call (SameI_calls w28 [-1, -1, -1] [-1, -1, -1] (by decide) (.slice a1 3 c1) _ (((hs1''.ext t18).ext t18_27).ext n28.tr).sli ⟨_, _, rfl, Nat.le_refl _, .inr ⟨b28, 0, rfl, n28.blk.all⟩⟩) ?_
  rintro _ w29 ⟨rfl, t29⟩
  rw [decide_eq_true rfl]
  have t27_29 := n28.tr.ext t29
  refine ⟨_, (BP27.ext t27_29).cell rfl, fun _ => ?_, fun h => absurd rfl h⟩
  -- the places
  have t16_18 := t18
  have B17_29 := ((B17'.ext t18).ext t18_27).ext t27_29
  refine ⟨fun _ => ⟨fun _ => ?_, fun h => absurd rfl h⟩, fun h => absurd rfl h⟩
  refine ⟨_, B17_29.all, rfl, bcells (24, 3, 0, 0), rfl, ?_⟩
  refine eql_flat (d := 4) (by decide) flat_block wide_block guard_block _ _ (bcells_eq _) (bcells_eq _) rfl rfl w29 ?_
  rw [decide_eq_true rfl]
  refine ⟨fun _ => ?_, fun h => absurd rfl h⟩
  -- fill
  have t18_29 := t18_27.ext t27_29
  refine ⟨_, (BL18.ext t18_29).all, rfl, _, rfl, fun b30 w30 n30 => ?_⟩
  have e30 := n30.num; have z30 := n30.size
  have t18_30 := t18_29.ext n30.tr
  have hm30 := hm18.ext t18_30
  have hg30 := hg18.ext t18_30
  have zl30 := hm18.lt
  have zt30 := t18_29.size
  have fl := Fill_calls (D := fun c => c = b30) hm30 hg30 (hv.rd.ext t18_30) (by decide) (by simp) InL64 (by decide) 8216 ⟨by decide, by decide⟩ (ws := [5, 6]) (s := .slice (some ⟨b30, 0, none⟩) 2 2)
    ⟨_, _, rfl, Nat.le_refl _, .inr ⟨b30, 0, rfl, rfl, n30.blk.all⟩⟩ (fun c hc hm => by have := zl30 c hm; omega) (by decide)
  rw [show viewL [] (loadL L2) = loadL L2 from rfl, ex_fill] at fl
  refine call fl ?_
  rintro _ w31 ⟨rfl, F3, hm31, st31⟩
  have hm31 : IMem w31 m L3 0 402 F3 := hm31
  have hg31 : Gl w31 := hm30.gl hg30 st31
  refine ⟨fun _ => ?_, fun h => absurd rfl h⟩
  have BL31 := (BL18.ext t18_30).tr st31.tr hb1F2
  have zl17 := hm2.lt
  have hvF : v ∉ F2 := fun hm => by have := zl17 v hm; omega
  have hv31 : VMem w31 133 v m [] [v] := (hv.ext t18_30).tr st31.tr (fun c hc hm => by simp at hm; exact hvF (hm ▸ hc))
  have ld31 : IsLoad w31 70 v (loadL L3) := VLoad_calls hv31.rd (by decide) (hm31.load hg31)
  refine ⟨_, BL31.all, rfl, ?_⟩
  refine call (Words_calls hg31 (loadL_ok hm31.ok) InL64 ld31 8216 ⟨by decide, by decide⟩) ?_
  rintro _ w32 ⟨t32, s30, rfl, ho⟩
  obtain ⟨y1, y2, y3⟩ := ex_words
  rw [y1]
  obtain ⟨xs, hxs⟩ : ∃ xs, xs = (wordsL (loadL L3) 64 8216).1 := ⟨_, rfl⟩
  unfold OwnS at ho
  rw [← hxs] at ho y2 y3
  rw [y2] at ho
  obtain ⟨a30, c30, hs30⟩ := ho.slice
  subst hs30
  obtain ⟨g30, o30, hg30', _, hc30⟩ := ho.sli.head (by decide)
  subst hg30'
  have q0 : xs[0]? = some 5 := by have := congrArg (fun l => l[0]?) y3; simpa [List.getElem?_take] using this
  have q1 : xs[1]? = some 6 := by have := congrArg (fun l => l[1]?) y3; simpa [List.getElem?_take] using this
  have q2 : xs[2]? = some 0 := by have := congrArg (fun l => l[2]?) y3; simpa [List.getElem?_take] using this
  have hb21 : b21 ∉ F2 := fun hm => by have := zl17 b21 hm; have := t18.size; have := t19.size; omega
  have B21_32 := (((B21.ext t21_27).ext t27_29).ext n30.tr).tr st31.tr hb21 |>.ext t32
  refine ⟨_, B21_32.all, rfl, bcells (24, 3, 2, 2), rfl, ?_⟩
  refine eql_flat (d := 4) (by decide) flat_block wide_block guard_block _ _ (bcells_eq _) (bcells_eq _) rfl rfl w32 ?_
  rw [decide_eq_true rfl]
  refine ⟨fun _ => ⟨fun _ => ⟨fun _ => ?_, fun h => absurd rfl h⟩, fun h => absurd rfl h⟩, fun h => absurd rfl h⟩
  have BL32 := BL31.ext t32
  refine draw_rule cx_ok [] (Plan.takes [0, 1, 2, 3, 4, 5, 6, 7, 8, 9, 10, 11, 12, 13, 14, 15, 16, 17, 18, 19, 20, 21, 22, 23, 24, 25, 26, 27, 28, 29, 30, 31, 32, 33, 34, 35, 36, 37, 38, 39, 40, 41, 42, 43, 44, 45, 46] (.one true 47 (.one true 48 (Plan.takes [49, 50, 51] .done)))) (by kernel_rfl) ?_
  intro w33 d
  refine ⟨fun _ => ⟨fun _ => ?_, fun h => absurd rfl h⟩, fun h => absurd rfl h⟩
  refine ⟨0, rfl, by decide, _, fun w' t => t.cell (hc30 0 _ (i64s_get q0)) (by simp), fun _ => ?_, fun h => absurd rfl h⟩
  refine ⟨1, rfl, by decide, _, fun w' t => t.cell (hc30 1 _ (i64s_get q1)) (by simp), fun _ => ?_, fun h => absurd rfl h⟩
  refine ⟨2, rfl, by decide, _, fun w' t => t.cell (hc30 2 _ (i64s_get q2)) (by simp), fun _ => ?_, fun h => absurd rfl h⟩
  refine ⟨_, fun w' t => BL32.all.tr t (by simp), rfl, _, fun w' t => BL32.all.tr t (by simp), rfl, ?_⟩
  refine ⟨?_, trivial⟩
  have hm33 := (hm31.ext t32).ext d.tr
  have hg33 := (hg31.ext t32).ext d.tr
  refine call (Scan_calls hm33 hg33 InL64) ?_
  rintro _ w34 ⟨t34', p1, p2, p3, rfl, ps1, ps2, ps3⟩
  refine ⟨d.tr.ext t34', ?_⟩
  refine ⟨?_, trivial⟩
  refine call (CheckPic_calls (hg33.ext t34') (loadL_ok hm31.ok) InL64 ps1.sli ps2.sli ps3.sli) ?_
  rintro _ w35 ⟨rfl, t35⟩
  refine ⟨(d.tr.ext t34').ext t35, fun _ => ⟨rfl, ?_⟩, fun h => absurd rfl h⟩
  have s0 := fresh_step (t3.ext t34 |>.ext t4_11) (fun c hc => by have := hF0 c hc; have := t3.size; omega) st1
  have s1 := fresh_step (s0.1.ext t12_16) s0.2 st2
  have s2 := fresh_step ((s1.1.ext t18).ext t18_30) s1.2 st31
  exact (((s2.1.ext t32).ext d.tr).ext t34').ext t35

end Go.Proofs.YthepaakejpbppaaGreatDoor

/- class: a script is played. -/
namespace Go.Proofs.YthepaakejpbppaaGreatDoor
open Go.E

/-- A slice to read alone that came in: without elements, its address is any. -/
def SliZ (w : World) (v : Value) (n : Nat) (xs : List Value) : Prop := ∃ a c, v = .slice a n c ∧ n ≤ c ∧ (n = 0 ∨ ∃ g o, a = some ⟨g, o, none⟩ ∧ Cells w g o xs)
theorem SliZ.slice {w : World} {v : Value} {n : Nat} {xs : List Value} (h : SliZ w v n xs) : ∃ a c, v = .slice a n c := let ⟨a, c, h, _⟩ := h; ⟨a, c, h⟩
theorem SliZ.ext {w w' : World} {v : Value} {n : Nat} {xs : List Value} (h : SliZ w v n xs) (t : Tr [] w w') : SliZ w' v n xs := by
  obtain ⟨a, c, hv, hn, h | ⟨g, o, ha, hc⟩⟩ := h
  · exact ⟨a, c, hv, hn, .inl h⟩
  · exact ⟨a, c, hv, hn, .inr ⟨g, o, ha, hc.ext t⟩⟩
theorem SliZ.head {w : World} {a : Option Addr} {n c : Nat} {xs : List Value} (h : SliZ w (.slice a n c) n xs) (h0 : 0 < n) : ∃ g o, a = some ⟨g, o, none⟩ ∧ n ≤ c ∧ Cells w g o xs := by
  obtain ⟨a', c', hv, hnc, h⟩ := h
  obtain ⟨rfl, _, rfl⟩ := Value.slice.inj hv
  rcases h with hz | ⟨g, o, rfl, hc⟩
  · omega
  · exact ⟨g, o, rfl, hnc, hc⟩

structure OpV where
  k : Int
  a : Int
  b : Int
  xs : List Int
  cv : Value
def OpV.cells (o : OpV) : List Value := ocells o.k o.a o.b o.xs o.cv
structure OpV.Ok (o : OpV) : Prop where
  len : o.xs.length = 8
  ia : inI64 o.a
  one : E.one o.cv = true
def ocs (os : List OpV) : List Value := os.flatMap OpV.cells

def opsL (L : List Ln) (os : List OpV) : Nat → List Ln
  | 0 => L
  | i + 1 => match os[i]? with
    | some o => opL (opsL L os i) o.k o.a o.b o.xs
    | none => opsL L os i
theorem opsL_at {L : List Ln} {os : List OpV} {i : Nat} {o : OpV} (h : os[i]? = some o) : opsL L os (i + 1) = opL (opsL L os i) o.k o.a o.b o.xs := by
  conv => lhs; unfold opsL
  rw [h]
theorem opsL_len (L : List Ln) (os : List OpV) : ∀ i, (opsL L os i).length = L.length
  | 0 => rfl
  | i + 1 => by
    unfold opsL
    split
    · rw [opL_len, opsL_len L os i]
    · exact opsL_len L os i
theorem opsL_sd {L : List Ln} (h : Sd L) (os : List OpV) : ∀ i, Sd (opsL L os i)
  | 0 => h
  | i + 1 => by
    unfold opsL
    split
    · exact (opsL_sd h os i).op _ _ _ _
    · exact opsL_sd h os i
theorem opL_big {L : List Ln} {k a b : Int} {xs : List Int} (h : 8 ≤ k) : opL L k a b xs = L := by
  unfold opL
  rw [if_neg (by omega), if_neg (by omega), if_neg (by omega), if_neg (by omega), if_neg (by omega), if_neg (by omega), if_neg (by omega), if_neg (by omega)]

def setsE (n : Nat) (es : List (Int × Int)) : Nat → List (Int × Int)
  | 0 => []
  | i + 1 => match es[i]? with
    | some e => setE n (setsE n es i) e.1 e.2
    | none => setsE n es i
theorem setsE_at {n : Nat} {es : List (Int × Int)} {i : Nat} {e : Int × Int} (h : es[i]? = some e) : setsE n es (i + 1) = setE n (setsE n es i) e.1 e.2 := by
  conv => lhs; unfold setsE
  rw [h]
theorem setE_len (n : Nat) (E : List (Int × Int)) (a v : Int) : (setE n E a v).length ≤ E.length + 1 := by unfold setE; split <;> simp
theorem setsE_len (n : Nat) (es : List (Int × Int)) : ∀ i, (setsE n es i).length ≤ i
  | 0 => by simp [setsE]
  | i + 1 => by
    unfold setsE
    have := setsE_len n es i
    split
    · rename_i e _
      have := setE_len n (setsE n es i) e.1 e.2
      omega
    · omega
theorem setsE_all (n : Nat) (es : List (Int × Int)) : ∀ i, ∀ e ∈ setsE n es i, 0 ≤ e.2 ∧ e.2 ≤ 1099511627775
  | 0 => by simp [setsE]
  | i + 1 => by
    unfold setsE
    split
    · exact setE_all (setsE_all n es i) _ _
    · exact setsE_all n es i

theorem cell_lt {w : World} {a : Addr} {v : Value} (h : w.cell? a = some v) : a.block < w.heap.size := by
  unfold World.cell? at h
  cases ho : w.heap[a.block]? with
  | none => simp [ho] at h
  | some o => exact (Array.getElem?_eq_some_iff.1 ho).1

def Dj (A B : List Nat) : Prop := ∀ b ∈ A, b ∉ B
theorem Dj.symm {A B : List Nat} (h : Dj A B) : Dj B A := fun b hb ha => h b ha hb
theorem Dj.step {A A' B : List Nat} {w w' : World} (h : Dj A B) (s : Step w w' A A') (hB : ∀ b ∈ B, b < w.heap.size) : Dj A' B := fun b hb hm => (s.sub b hb).elim (fun h1 => h b h1 hm) (fun h1 => by have := hB b hm; omega)

def hcells (n m v s : Nat) : List Value := lcs n ++ [.pointer (some ⟨m, 0, none⟩), .pointer (some ⟨v, 0, none⟩), .pointer (some ⟨s, 0, none⟩)]

/-- What a script comes to. -/
structure Heap (w w' : World) (n m v s : Nat) (L : List Ln) (E : List (Int × Int)) (z sm : Nat) (span span' : Nat) (F1 FS FV FSV : List Nat) : Prop where
  tr : Tr [] w w'
  mem : IMem w' m L span 100 F1
  spec : RMem w' sm L span' 100 FS
  view : VMem w' 133 v m E FV
  sview : VMem w' 42 s sm E FSV
  d1 : Dj F1 FS
  d2 : Dj F1 FV
  d3 : Dj F1 FSV
  d4 : Dj FS FV
  d5 : Dj FS FSV
  d6 : Dj FV FSV
  ge : ∀ b, b ∈ F1 ∨ b ∈ FS ∨ b ∈ FV ∨ b ∈ FSV → w.heap.size ≤ b

set_option maxHeartbeats 8000000 in
set_option maxRecDepth 100000 in
theorem played_calls (w : World) (hg : Gl w) (ln : Nat) (hln : ln < 256) (os : List OpV) (hos : ∀ o ∈ os, o.Ok) (es : List (Int × Int)) (hes : ∀ e ∈ es, inI64 e.1) {sO sE : Value} (hO : SliZ w sO os.length (ocs os)) (hE : SliZ w sE es.length (ecells es)) :
    Calls cx.P 10 #[.agg #[.int .u8 (ln : Nat), sO, sE]] w (Ret fun x w' =>
      (¬ (os.length ≤ 80 ∧ es.length ≤ 40) ∧ Tr [] w w' ∧ ∃ cs : List Value, x = .tuple #[.agg cs.toArray, .bool false] ∧ cs.length = 11 ∧ cs.all E.one = true) ∨
      (os.length ≤ 80 ∧ es.length ≤ 40 ∧ ∃ m v s z sm span span' F1 FS FV FSV, x = .tuple #[.agg (hcells (64 + ln % 40) m v s).toArray, .bool true] ∧
        Heap w w' (64 + ln % 40) m v s (opsL (List.replicate (64 + ln % 40) (quiet zeros8)) os os.length) (setsE (64 + ln % 40) es es.length) z sm span span' F1 FS FV FSV)) := by
  obtain ⟨n, hn⟩ : ∃ n, n = 64 + ln % 40 := ⟨_, rfl⟩
  have hnL : InL n := by unfold InL; omega
  rw [← hn]
  obtain ⟨aO, cO, hsO⟩ := hO.slice
  obtain ⟨aE, cE, hsE⟩ := hE.slice
  subst hsO; subst hsE
  refine calls_body cx_ok (args := [.agg #[.int .u8 (ln : Nat), .slice aO os.length cO, .slice aE es.length cE]]) Tryz.func10 rfl 170 rfl rfl [.cell 2 33, .tmp 3] rfl ?_
  intro b1 w1 n1 b2 w2 n2
  have e1 := n1.num; have e2 := n2.num; have z1 := n1.size; have z2 := n2.size
  have B1 : Blk w2 b1 [.int .u8 (ln : Nat), .slice aO os.length cO, .slice aE es.length cE] 25 := (show Blk w1 b1 _ _ from n1.blk).ext n2.tr
  obtain ⟨z11, hz11⟩ : ∃ z : List Value, z = [.int .i64 0, .int .i64 0, .int .i64 0, .int .i64 0, .int .i64 0, .int .i64 0, .int .i64 0, .int .i64 0, .pointer none, .pointer none, .pointer none] := ⟨_, rfl⟩
  have B2 : Blk w2 b2 z11 33 := by rw [hz11]; exact n2.blk
  have t2 := n1.tr.ext n2.tr
  by_cases hbig : ¬ (os.length ≤ 80 ∧ es.length ≤ 40)
  · have fin : StN w2 b2 0 11 z11 fun w' => ∃ vs, Cells w' b2 0 vs ∧ vs.length = 11 ∧ ((¬ (os.length ≤ 80 ∧ es.length ≤ 40) ∧ Tr [] w w' ∧ ∃ cs : List Value, pack [.agg vs.toArray, .bool false] = .tuple #[.agg cs.toArray, .bool false] ∧ cs.length = 11 ∧ cs.all E.one = true) ∨
        (os.length ≤ 80 ∧ es.length ≤ 40 ∧ ∃ m v s z sm span span' F1 FS FV FSV, pack [.agg vs.toArray, .bool false] = .tuple #[.agg (hcells n m v s).toArray, .bool true] ∧
        Heap w w' n m v s (opsL (List.replicate n (quiet zeros8)) os os.length) (setsE n es es.length) z sm span span' F1 FS FV FSV)) := by
      refine ⟨_, _, B2, by rw [hz11]; rfl, by rw [hz11]; show 0 + 11 ≤ 11; decide, by rw [hz11]; rfl, fun w' u => ⟨_, u.blk.all, by rw [hz11]; rfl, .inl ⟨hbig, u.ext t2 (by omega), _, rfl, by rw [hz11]; rfl, by rw [hz11]; rfl⟩⟩⟩
    rw [hz11] at fin
    refine ⟨_, B1.cell rfl, fun h80 => ⟨_, rfl, fin⟩, fun h80 => ?_⟩
    refine ⟨_, B1.cell rfl, fun h40 => ⟨_, rfl, fin⟩, fun h40 => absurd (show os.length ≤ 80 ∧ es.length ≤ 40 by omega) hbig⟩
  have hsm : os.length ≤ 80 ∧ es.length ≤ 40 := Classical.not_not.1 hbig
  refine ⟨_, B1.cell rfl, fun h80 => absurd h80 (by omega), fun _ => ⟨_, B1.cell rfl, fun h40 => absurd h40 (by omega), fun _ => ?_⟩⟩
  refine ⟨_, B1.cell rfl, (ln : Int), by rw [w64 (by omega)], ((ln % 40 : Nat) : Int), by decide, by rw [IntWalk.rem_in _ _ (by omega)]; omega, ((n : Nat) : Int), by rw [w64 (by omega)]; omega, ?_⟩
  refine call (Plan_calls n hnL w2) ?_
  rintro _ w3 ⟨rfl, t3⟩
  intro b5 w4 n4
  have e4 := n4.num; have z4 := n4.size; have z3 := t3.size
  refine ⟨_, _, n4.blk, rfl, by show 0 + 8 ≤ 8; decide, rfl, fun w5 u5 => ?_⟩
  have z5 := u5.size
  have B5 : Blk w5 b5 (lcs n) 28 := u5.blk
  have t25 : Tr [] w2 w5 := u5.ext (t3.ext n4.tr) (by omega)
  have hnn : 64 ≤ n ∧ n ≤ 103 := hnL
  refine call (New_mem w5 (hg.ext (t2.ext t25)) n (by omega) (by omega)) ?_
  rintro _ w6 ⟨t56, m, F0, rfl, hm0, hF0⟩
  refine call (New04_calls w6 ((hg.ext (t2.ext t25)).ext t56).size n (by omega)) ?_
  rintro _ w7 ⟨t67, sm, FS0, rfl, hs0, hFS0⟩
  refine ⟨.bool false, w7, ptr_nil rfl under_mem _ _ _ w7, ?_⟩
  have z56 := t56.size; have z67 := t67.size
  have zl6 := hm0.lt
  have t57 := t56.ext t67
  have B5_7 := B5.ext t57
  have t27 := t25.ext t57
  have hgl : ∀ W, Tr [] w W → Gl W := fun W t => hg.ext t
  have t07 := t2.ext t27
  have hd0 : Dj F0 FS0 := fun c hc hm => by have := zl6 c hc; have := hFS0 c hm; omega
  have base : w2.heap.size ≤ w5.heap.size := t25.size
  obtain ⟨LL, hLL⟩ : ∃ LL, LL = List.replicate n (quiet zeros8) := ⟨_, rfl⟩
  rw [← hLL] at hm0 hs0 ⊢
  have hsd0 : Sd LL := by rw [hLL]; exact LOk.rep n
  refine loop_rule cx_ok (fun (i : Nat) W => i ≤ os.length ∧ Tr [] w5 W ∧ ∃ span span' F1 FS, IMem W m (opsL LL os i) span i F1 ∧ RMem W sm (opsL LL os i) span' i FS ∧ Dj F1 FS ∧ (∀ c ∈ F1, w5.heap.size ≤ c) ∧ ∀ c ∈ FS, w5.heap.size ≤ c)
    (fun i : Nat => [(1, .pointer (some ⟨b1, 0, none⟩)), (2, .pointer (some ⟨b2, 0, none⟩)), (5, .pointer (some ⟨b5, 0, none⟩)), (7, .pointer (some ⟨m, 0, none⟩)), (8, .pointer (some ⟨sm, 0, none⟩)), (9, .int .i64 (i : Nat))]) (fun i => os.length - i) 0
    ⟨rfl, rfl, rfl, rfl, rfl, rfl, trivial⟩ ⟨by omega, t57, 0, 0, F0, FS0, hm0.ext t67, hs0, hd0, hF0, fun c hc => by have := hFS0 c hc; omega⟩ ?_
  rintro i W ⟨hi, tW, span, span', F1, FS, hm1, hs1, hd, hF1, hFS⟩
  have B1W := (B1.ext t25).ext tW
  have zW := tW.size
  refine ⟨_, B1W.cell rfl, fun hlt => ?_, fun hge => ?_⟩
  · have hil : i < os.length := by omega
    obtain ⟨o, ho⟩ : ∃ o, o = os[i] := ⟨_, rfl⟩
    have hog : os[i]? = some o := by rw [ho]; exact List.getElem?_eq_getElem hil
    have hok := hos o (List.mem_of_getElem? hog)
    have hl12 : ∀ q ∈ os, (OpV.cells q).length = 12 := fun q hq => ocells_len (hos q hq).len _ _ _ _
    have ho12 := hl12 o (List.mem_of_getElem? hog)
    have hone := ocells_one o.k o.a o.b o.xs hok.one
    obtain ⟨g, oo, haO, _, hcs⟩ := (hO.ext (t2.ext (t25.ext tW))).head (by omega)
    have hcell : Cells W g (oo + i * 12) o.cells := fun j v hv => by
      have := hcs _ _ (fm_get hl12 hog hv)
      rw [Nat.add_assoc]; exact this
    rw [haO] at B1W
    rw [haO]
    refine ⟨_, B1W.cell rfl, i, rfl, hil, _, hcell, ho12, ?_⟩
    intro b10 W1 nn
    have en := nn.num; have zn := nn.size
    refine ⟨_, _, nn.blk, ho12, by show 0 + 12 ≤ 12; decide, hone, fun W2 u2 => ?_⟩
    have zu := u2.size
    have BO : Blk W2 b10 o.cells 95 := Upd.whole u2 rfl ho12
    have tW2 : Tr [] W W2 := u2.ext nn.tr (by omega)
    have t52 := tW.ext tW2
    have hm2 := hm1.ext tW2
    have hs2 := hs1.ext tW2
    have hL2 := opsL_sd hsd0 os i
    refine ⟨_, BO.cell rfl, fun hk8 => ?_, fun hk8 => ?_⟩
    · refine ⟨_, BO.all, ho12, ?_⟩
      refine call (Do04_calls hs2 hL2 (by omega) o.k o.a o.b o.xs o.cv hok.len hk8 hok.ia) ?_
      rintro _ W3 ⟨FS3, hs3, st3⟩
      have hb10 : b10 ∉ FS := fun hm => by have := hs1.lt b10 hm; omega
      have B3 := BO.tr st3.tr hb10
      have hm3 := hm2.tr st3.tr (fun c hc hm => hd c hm hc)
      have f3 := fresh_step t52 hFS st3
      have hg3 := hg.ext ((t2.ext t25).ext f3.1)
      have hd3 : Dj F1 FS3 := (hd.symm.step st3 hm2.lt).symm
      have fin' : ∀ (W4 : World) (sp : Nat) (L' : List Ln) (F4 : List Nat), IMem W4 m L' sp (i + 1) F4 → Step W3 W4 F1 F4 → opL (opsL LL os i) o.k o.a o.b o.xs = L' → (i + 1 ≤ os.length ∧ Tr [] w5 W4 ∧ ∃ span span' F1 FS, IMem W4 m (opsL LL os (i + 1)) span (i + 1) F1 ∧ RMem W4 sm (opsL LL os (i + 1)) span' (i + 1) FS ∧ Dj F1 FS ∧ (∀ c ∈ F1, w5.heap.size ≤ c) ∧ ∀ c ∈ FS, w5.heap.size ≤ c) := by
        intro W4 sp L' F4 hm4 st4 hL'
        have f4 := fresh_step f3.1 hF1 st4
        refine ⟨hil, f4.1, sp, spanL span' o.k o.a, F4, FS3, ?_, ?_, hd3.step st4 hs3.lt, f4.2, f3.2⟩
        · rw [opsL_at hog, hL']; exact hm4
        · rw [opsL_at hog]; exact hs3.tr st4.tr (fun c hc hm => hd3 c hc hm)
      refine ⟨_, B3.cell rfl, ?_⟩
      refine ⟨fun k0 => ?_, fun k0 => ?_⟩
      · refine ⟨_, B3.cell rfl, _, B3.cell rfl, ?_⟩
        refine call (Store_gen hm3 hg3 (by omega) o.a o.b hok.ia) ?_
        rintro _ W4 ⟨rfl, F4, hm4, st4⟩
        exact ⟨((i + 1 : Nat) : Int), by rw [w64 (by omega)]; omega, rfl, i + 1, ⟨rfl, rfl, rfl, rfl, rfl, rfl, trivial⟩, fin' W4 _ _ F4 hm4 st4 (by unfold opL; rw [if_pos k0]), by omega⟩
      refine ⟨fun k1 => ?_, fun k1 => ?_⟩
      · refine ⟨_, B3.cell rfl, _, B3.cell rfl, ?_⟩
        refine call (Publish_gen hm3 hg3 (by omega) o.a o.b hok.ia) ?_
        rintro _ W4 ⟨rfl, F4, hm4, st4⟩
        exact ⟨((i + 1 : Nat) : Int), by rw [w64 (by omega)]; omega, rfl, i + 1, ⟨rfl, rfl, rfl, rfl, rfl, rfl, trivial⟩, fin' W4 _ _ F4 hm4 st4 (by unfold opL; rw [if_neg k0, if_pos k1]), by omega⟩
      refine ⟨fun k2 => ?_, fun k2 => ?_⟩
      · refine ⟨_, B3.cell rfl, ?_⟩
        refine call (Span_gen hm3 o.a) ?_
        rintro _ W4 ⟨hm4, st4⟩
        exact ⟨((i + 1 : Nat) : Int), by rw [w64 (by omega)]; omega, rfl, i + 1, ⟨rfl, rfl, rfl, rfl, rfl, rfl, trivial⟩, fin' W4 _ _ F1 (hm4.mono (by omega)) st4 (by unfold opL; rw [if_neg k0, if_neg k1, if_pos k2]), by omega⟩
      refine ⟨fun k3 => ?_, fun k3 => ?_⟩
      · refine ⟨_, B3.cell rfl, ?_⟩
        refine call (Flush_gen hm3 (by omega) o.a) ?_
        rintro _ W4 ⟨rfl, F4, hm4, st4⟩
        exact ⟨((i + 1 : Nat) : Int), by rw [w64 (by omega)]; omega, rfl, i + 1, ⟨rfl, rfl, rfl, rfl, rfl, rfl, trivial⟩, fin' W4 _ _ F4 hm4 st4 (by unfold opL; rw [if_neg k0, if_neg k1, if_neg k2, if_pos k3]), by omega⟩
      refine ⟨fun k4 => ?_, fun k4 => ?_⟩
      · refine call (Fence_gen hm3 hg3 (by omega)) ?_
        rintro _ W4 ⟨F4, hm4, st4⟩
        exact ⟨((i + 1 : Nat) : Int), by rw [w64 (by omega)]; omega, rfl, i + 1, ⟨rfl, rfl, rfl, rfl, rfl, rfl, trivial⟩, fin' W4 _ _ F4 hm4 st4 (by unfold opL; rw [if_neg k0, if_neg k1, if_neg k2, if_neg k3, if_pos k4]), by omega⟩
      refine ⟨fun k5 => ?_, fun k5 => ?_⟩
      · refine ⟨_, B3.cell rfl, _, B3.cell rfl, ?_⟩
        refine call (Evict_gen hm3 hg3 (by omega) o.a o.b) ?_
        rintro _ W4 ⟨rfl, F4, hm4, st4⟩
        exact ⟨((i + 1 : Nat) : Int), by rw [w64 (by omega)]; omega, rfl, i + 1, ⟨rfl, rfl, rfl, rfl, rfl, rfl, trivial⟩, fin' W4 _ _ F4 hm4 st4 (by unfold opL; rw [if_neg k0, if_neg k1, if_neg k2, if_neg k3, if_neg k4, if_pos k5]), by omega⟩
      refine ⟨fun k6 => ?_, fun k6 => ?_⟩
      · refine ⟨_, B3.cell rfl, _, ocells_words B3.all, by rw [i64s_len]; exact hok.len, ?_⟩
        refine call (Heal_gen hm3 hg3 (by omega) o.a o.xs hok.len) ?_
        rintro _ W4 ⟨rfl, F4, hm4, st4⟩
        exact ⟨((i + 1 : Nat) : Int), by rw [w64 (by omega)]; omega, rfl, i + 1, ⟨rfl, rfl, rfl, rfl, rfl, rfl, trivial⟩, fin' W4 _ _ F4 hm4 st4 (by unfold opL; rw [if_neg k0, if_neg k1, if_neg k2, if_neg k3, if_neg k4, if_neg k5, if_pos k6]), by omega⟩
      refine ⟨fun k7 => ?_, fun k7 => ?_⟩
      · refine ⟨_, B3.cell rfl, _, ocells_words B3.all, by rw [i64s_len]; exact hok.len, _, B3.cell rfl, ?_⟩
        refine call (Rot_gen hm3 (by omega) o.a o.xs hok.len o.b) ?_
        rintro _ W4 ⟨rfl, F4, hm4, st4⟩
        exact ⟨((i + 1 : Nat) : Int), by rw [w64 (by omega)]; omega, rfl, i + 1, ⟨rfl, rfl, rfl, rfl, rfl, rfl, trivial⟩, fin' W4 _ _ F4 hm4 st4 (by unfold opL; rw [if_neg k0, if_neg k1, if_neg k2, if_neg k3, if_neg k4, if_neg k5, if_neg k6, if_pos k7]), by omega⟩
      exact ⟨((i + 1 : Nat) : Int), by rw [w64 (by omega)]; omega, rfl, i + 1, ⟨rfl, rfl, rfl, rfl, rfl, rfl, trivial⟩, fin' W3 _ _ F1 (hm3.mono (by omega)) (Step.refl _ _) (by unfold opL; rw [if_neg k0, if_neg k1, if_neg k2, if_neg k3, if_neg k4, if_neg k5, if_neg k6, if_neg k7]), by omega⟩
    · refine ⟨_, BO.cell rfl, ?_⟩
      refine ⟨fun h => absurd h (by omega), fun _ => ⟨fun h => absurd h (by omega), fun _ => ⟨fun h => absurd h (by omega), fun _ => ⟨fun h => absurd h (by omega), fun _ => ⟨fun h => absurd h (by omega), fun _ => ⟨fun h => absurd h (by omega), fun _ => ⟨fun h => absurd h (by omega), fun _ => ⟨fun h => absurd h (by omega), fun _ => ?_⟩⟩⟩⟩⟩⟩⟩⟩
      have hbig8 := opL_big (L := opsL LL os i) (a := o.a) (b := o.b) (xs := o.xs) (show 8 ≤ o.k by omega)
      exact ⟨((i + 1 : Nat) : Int), by rw [w64 (by omega)]; omega, rfl, i + 1, ⟨rfl, rfl, rfl, rfl, rfl, rfl, trivial⟩, ⟨hil, t52, span, span', F1, FS, by rw [opsL_at hog, hbig8]; exact hm2.mono (by omega), by rw [opsL_at hog, hbig8]; exact hs2.mono (by omega), hd, hF1, hFS⟩, by omega⟩
  · obtain rfl : i = os.length := by omega
    refine call (Over_calls W m) ?_
    rintro _ W2 ⟨tv, v, rfl, hv, hvge⟩
    refine call (Over10_calls W2 sm) ?_
    rintro _ W3 ⟨ts, sv, rfl, hsv, hsge⟩
    have zv := tv.size; have zs := ts.size
    have hm3 := hm1.ext (tv.ext ts)
    have hs3 := hs1.ext (tv.ext ts)
    have lm := hm1.lt; have ls := hs1.lt; have lv := hv.lt
    obtain ⟨Lf, hLf⟩ : ∃ Lf, Lf = opsL LL os os.length := ⟨_, rfl⟩
    have hLn : Lf.length = n := by rw [hLf, opsL_len, hLL, List.length_replicate]
    rw [← hLf] at hm3 hs3 ⊢
    refine loop_rule cx_ok (fun (j : Nat) U => j ≤ es.length ∧ Tr [] w5 U ∧ IMem U m Lf span 100 F1 ∧ RMem U sm Lf span' 100 FS ∧ ∃ FV FSV, VMem U 133 v m (setsE n es j) FV ∧ VMem U 42 sv sm (setsE n es j) FSV ∧ Dj F1 FV ∧ Dj F1 FSV ∧ Dj FS FV ∧ Dj FS FSV ∧ Dj FV FSV ∧ (∀ c ∈ FV, w5.heap.size ≤ c) ∧ ∀ c ∈ FSV, w5.heap.size ≤ c)
      (fun j : Nat => [(1, .pointer (some ⟨b1, 0, none⟩)), (2, .pointer (some ⟨b2, 0, none⟩)), (5, .pointer (some ⟨b5, 0, none⟩)), (7, .pointer (some ⟨m, 0, none⟩)), (8, .pointer (some ⟨sm, 0, none⟩)), (11, .pointer (some ⟨v, 0, none⟩)), (12, .pointer (some ⟨sv, 0, none⟩)), (13, .int .i64 (j : Nat))]) (fun j => es.length - j) 0
      ⟨rfl, rfl, rfl, rfl, rfl, rfl, rfl, rfl, trivial⟩ ⟨by omega, tW.ext (tv.ext ts), hm3.mono (by omega), hs3.mono (by omega), [v], [sv], hv.ext ts, hsv, fun c hc hm => by have := lm c hc; simp at hm; omega, fun c hc hm => by have := lm c hc; simp at hm; omega, fun c hc hm => by have := ls c hc; simp at hm; omega, fun c hc hm => by have := ls c hc; simp at hm; omega, fun c hc hm => by have := lv c hc; simp at hm; omega, fun c hc => by simp at hc; omega, fun c hc => by simp at hc; omega⟩ ?_
    rintro j U ⟨hj, tU, hmU, hsU, FV, FSV, hvU, hsvU, d2, d3, d4, d5, d6, gV, gSV⟩
    have B1U := (B1.ext t25).ext tU
    have hlenE := setsE_len n es j
    refine ⟨_, B1U.cell rfl, fun hlt => ?_, fun hge => ?_⟩
    · refine ⟨.bool true, U, ptr_nil_ne rfl under_view _ _ _ U, ?_⟩
      have hjl : j < es.length := by omega
      obtain ⟨e, he⟩ : ∃ e, e = es[j] := ⟨_, rfl⟩
      have heg : es[j]? = some e := by rw [he]; exact List.getElem?_eq_getElem hjl
      have hei := hes e (List.mem_of_getElem? heg)
      obtain ⟨hc0, hc1⟩ := ecells_get heg
      obtain ⟨g, oo, haE, _, hcs⟩ := (hE.ext (t2.ext (t25.ext tU))).head (by omega)
      have k0 : U.cell? ⟨g, oo + j * 2 + 0, none⟩ = some (.int .i64 e.1) := by rw [show oo + j * 2 + 0 = oo + j * 2 by omega]; exact hcs _ _ hc0
      have k1 : U.cell? ⟨g, oo + j * 2 + 1, none⟩ = some (.int .i64 e.2) := by rw [show oo + j * 2 + 1 = oo + (j * 2 + 1) by omega]; exact hcs _ _ hc1
      rw [haE] at B1U
      have hgw : g < w5.heap.size := by
        obtain ⟨g', o', haE', _, hcs0⟩ := hE.head (by omega)
        rw [haE] at haE'
        cases haE'
        have h1 : g < w.heap.size := cell_lt (hcs0 _ _ hc0)
        have h2 := (t2.ext t25).size
        omega
      have hb1w : b1 < w5.heap.size := by have := (B1.ext t25).lt; exact this
      have hgV : g ∉ FV := fun hm => by have := gV g hm; omega
      have hb1V : b1 ∉ FV := fun hm => by have := gV b1 hm; omega
      refine draw_rule cx_ok FV (Plan.takes [0, 1, 2, 3, 4, 5, 6, 7, 8, 9, 10, 11, 12] (.one true 13 .done)) (by kernel_rfl) ?_
      intro U1 dr
      refine ⟨_, fun w' t => t.cell (B1U.cell rfl) hb1V, j, rfl, hjl, _, fun w' t => t.cell k0 hgV, _, fun w' t => t.cell (B1U.cell rfl) hb1V, j, rfl, hjl, _, fun w' t => t.cell k1 hgV, ?_⟩
      refine ⟨?_, trivial⟩
      refine call (VSet_calls (hvU.ext dr.tr) (hmU.ext dr.tr) e.1 e.2 hei (by omega)) ?_
      rintro _ U2 ⟨FV2, hv2, st2⟩
      rw [hLn, ← setsE_at heg] at hv2
      have q2 : Tr FV U U2 := dr.tr.of_ext.trans st2.tr (fun _ h => h) (fun _ h _ => h)
      have s2 : Step U U2 FV FV2 := Step.of_ext dr.tr st2
      refine ⟨q2, ?_⟩
      have lV := hvU.lt; have lSV := hsvU.lt; have lmU := hmU.lt; have lsU := hsU.lt
      have f2 := fresh_step tU gV s2
      have hsv2 := hsvU.tr q2 (fun c hc hm => d6 c hc hm)
      have hs2 := hsU.tr q2 (fun c hc hm => d4 c hm hc)
      have hm2 := hmU.tr q2 (fun c hc hm => d2 c hm hc)
      have B1U2 := B1U.tr q2 hb1V
      have d6' := d6.step s2 lSV
      have d2' : Dj F1 FV2 := (d2.symm.step s2 lmU).symm
      have d4' : Dj FS FV2 := (d4.symm.step s2 lsU).symm
      have hgS : g ∉ FSV := fun hm => by have := gSV g hm; omega
      have hb1S : b1 ∉ FSV := fun hm => by have := gSV b1 hm; omega
      have k02 := q2.cell k0 hgV
      have k12 := q2.cell k1 hgV
      refine draw_rule cx_ok FSV (Plan.takes [0, 1, 2, 3, 4, 5, 6, 7, 8, 9, 10, 11, 12] (.one true 13 .done)) (by kernel_rfl) ?_
      intro U3 dr2
      refine ⟨_, fun w' t => t.cell (B1U2.cell rfl) hb1S, j, rfl, hjl, _, fun w' t => t.cell k02 hgS, _, fun w' t => t.cell (B1U2.cell rfl) hb1S, j, rfl, hjl, _, fun w' t => t.cell k12 hgS, ?_⟩
      refine ⟨?_, trivial⟩
      refine call (VSet10_calls (hsv2.ext dr2.tr) (hs2.ext dr2.tr) e.1 e.2 hei (by omega)) ?_
      rintro _ U4 ⟨FSV2, hsv4, st4⟩
      rw [hLn, ← setsE_at heg] at hsv4
      have q4 : Tr FSV U2 U4 := dr2.tr.of_ext.trans st4.tr (fun _ h => h) (fun _ h _ => h)
      have s4 : Step U2 U4 FSV FSV2 := Step.of_ext dr2.tr st4
      refine ⟨q4, ?_⟩
      have f4 := fresh_step f2.1 gSV s4
      refine ⟨((j + 1 : Nat) : Int), by rw [w64 (by omega)]; omega, rfl, j + 1, ⟨rfl, rfl, rfl, rfl, rfl, rfl, rfl, rfl, trivial⟩, ⟨hjl, f4.1, hm2.tr q4 (fun c hc hm => d3 c hm hc), hs2.tr q4 (fun c hc hm => d5 c hm hc), FV2, FSV2, hv2.tr q4 (fun c hc hm => d6' c hm hc), hsv4, d2', (d3.symm.step s4 hm2.lt).symm, d4', (d5.symm.step s4 hs2.lt).symm, (d6'.symm.step s4 hv2.lt).symm, f2.2, f4.2⟩, by omega⟩
    · have hge' : ¬ ((j : Nat) : Int) < ((es.length : Nat) : Int) := hge
      obtain rfl : j = es.length := by omega
      have B5U := B5.ext tU
      have tU' := t25.ext tU
      refine ⟨_, B5U.all, rfl, hcells n m v sv, rfl, .bool true, U, ptr_nil_ne rfl under_view _ _ _ U, ?_⟩
      have B2U := (B2.ext tU')
      rw [hz11] at B2U
      refine ⟨_, _, B2U, rfl, by show 0 + 11 ≤ 11; decide, rfl, fun U2 u2 => ?_⟩
      have hzU := tU'.size
      have hb2 : b2 < w2.heap.size := by omega
      have hqq : ∀ c, (c ∈ F1 ∨ c ∈ FS ∨ c ∈ FV ∨ c ∈ FSV) → w5.heap.size ≤ c := fun c hc => by
        rcases hc with h | h | h | h
        · exact hF1 c h
        · exact hFS c h
        · exact gV c h
        · exact gSV c h
      have hz25 := t25.size
      have nb : ∀ c, (c ∈ F1 ∨ c ∈ FS ∨ c ∈ FV ∨ c ∈ FSV) → c ≠ b2 := fun c hc => by have := hqq c hc; omega
      refine ⟨_, u2.blk.all, rfl, .inr ⟨hsm.1, hsm.2, m, v, sv, 0, sm, span, span', F1, FS, FV, FSV, rfl, ⟨u2.ext (t2.ext tU') (by omega), hmU.tr u2.tr (fun c hc hm => nb c (.inl hm) (by simpa using hc)), hsU.tr u2.tr (fun c hc hm => nb c (.inr (.inl hm)) (by simpa using hc)), hvU.tr u2.tr (fun c hc hm => nb c (.inr (.inr (.inl hm))) (by simpa using hc)), hsvU.tr u2.tr (fun c hc hm => nb c (.inr (.inr (.inr hm))) (by simpa using hc)), hd, d2, d3, d4, d5, d6, fun c hc => by have := hqq c hc; have := t2.size; omega⟩⟩⟩

end Go.Proofs.YthepaakejpbppaaGreatDoor

/- The law ClassPlacesMatchSpec: it returns true. -/
namespace Go.Proofs.YthepaakejpbppaaGreatDoor
open Go.E

theorem hlay {w : World} {b n m v s T : Nat} (B : Blk w b (hcells n m v s) T) : Cells w b (0 + 0) (lcs n) := fun j x hj => by
  rw [show 0 + 0 + j = j by omega]
  refine B.cell ?_
  unfold hcells
  rw [List.getElem?_append_left (List.getElem?_eq_some_iff.1 hj).1]
  exact hj
theorem hcells_len (n m v s : Nat) : (hcells n m v s).length = 11 := rfl
theorem hcells_one (n m v s : Nat) : (hcells n m v s).all E.one = true := rfl

set_option maxHeartbeats 4000000 in
set_option maxRecDepth 100000 in
theorem Places_calls (w : World) (hg : Gl w) (ln : Nat) (hln : ln < 256) (os : List OpV) (hos : ∀ o ∈ os, o.Ok) (es : List (Int × Int)) (hes : ∀ e ∈ es, inI64 e.1) {sO sE : Value} (hO : SliZ w sO os.length (ocs os)) (hE : SliZ w sE es.length (ecells es)) (chunk line : Int) (hli : inI64 line) :
    Calls cx.P 3 #[.agg #[.int .u8 (ln : Nat), sO, sE], .int .i64 chunk, .int .i64 line] w (Ret fun x w' => x = .bool true ∧ Tr [] w w') := by
  obtain ⟨aO, cO, hsO⟩ := hO.slice
  obtain ⟨aE, cE, hsE⟩ := hE.slice
  subst hsO; subst hsE
  refine calls_body cx_ok (args := [.agg #[.int .u8 (ln : Nat), .slice aO os.length cO, .slice aE es.length cE], .int .i64 chunk, .int .i64 line]) Tryz.func3 rfl 117 rfl rfl [.tmp 6] rfl ?_
  intro b3 w1 n1
  have B3 : Blk w1 b3 [.int .u8 (ln : Nat), .slice aO os.length cO, .slice aE es.length cE] 25 := n1.blk
  refine call (sanity_calls w1 (hg.ext n1.tr)) ?_
  rintro _ w2 ⟨rfl, t2⟩
  have t02 := n1.tr.ext t2
  refine ⟨_, (B3.ext t2).all, rfl, ?_⟩
  refine call (played_calls w2 (hg.ext t02) ln hln os hos es hes (hO.ext t02) (hE.ext t02)) ?_
  rintro x w3 (⟨hno, t3, cs, rfl, hcl, hc1⟩ | ⟨h80, h40, m, v, s, z, sm, span, span', F1, FS, FV, FSV, rfl, hp⟩)
  · intro b8 w4 n4
    have e4 := n4.num; have z4 := n4.size
    refine ⟨_, _, n4.blk, hcl, by show 0 + 11 ≤ 11; decide, hc1, fun w5 u5 => ?_⟩
    exact ⟨rfl, u5.ext ((t02.ext t3).ext n4.tr) (by have := t3.size; have := t02.size; omega)⟩
  · have hn : InL (64 + ln % 40) := by unfold InL; omega
    generalize 64 + ln % 40 = n at *
    generalize opsL (List.replicate n (quiet zeros8)) os os.length = L at *
    intro b8 w4 n4
    have e4 := n4.num; have z4 := n4.size
    refine ⟨_, _, n4.blk, hcells_len n m v s, by show 0 + 11 ≤ 11; decide, hcells_one n m v s, fun w5 u5 => ?_⟩
    have B8 : Blk w5 b8 (hcells n m v s) 33 := u5.blk
    have t35 : Tr [] w3 w5 := u5.ext n4.tr (by omega)
    have t05 := (t02.ext hp.tr).ext t35
    have hm := hp.mem.ext t35
    have hs := hp.spec.ext t35
    obtain ⟨sl, V, _⟩ := hp.sview.rd.ext t35
    have hg5 := hg.ext t05
    have hli' := hli
    refine ⟨_, B8.cell rfl, _, hlay B8, rfl, ?_⟩
    refine call (Assigned_calls hm hg5 hn chunk) ?_
    rintro _ w6 ⟨rfl, t6⟩
    refine draw_rule cx_ok [] (Plan.takes [0, 1, 2, 3, 4, 5, 6, 7] (.one true 8 (Plan.takes [9, 10, 11, 12, 13] .done))) (by kernel_rfl) ?_
    intro w7 d
    refine ⟨_, fun w' t => t.cell ((B8.ext t6).cell rfl) (by simp), _, fun w' t => t.cell ((V.ext t6).cell rfl) (by simp), _, fun w' t => (hlay (B8.ext t6)).tr t (by simp), rfl, ?_⟩
    refine ⟨?_, trivial⟩
    have t57 := t6.ext d.tr
    refine call (Assigned11_calls (hs.ext t57) hn chunk) ?_
    rintro _ w8 ⟨rfl, t8⟩
    refine ⟨d.tr.ext t8, ?_⟩
    have t58 := t57.ext t8
    refine ⟨fun _ => ⟨fun _ => ?_, fun h => absurd rfl h⟩, fun h => absurd rfl h⟩
    refine ⟨_, (B8.ext t58).cell rfl, _, hlay (B8.ext t58), rfl, ?_⟩
    refine call (Of_calls (hm.ext t58) (hg5.ext t58) hn line hli) ?_
    rintro _ w9 ⟨rfl, t9⟩
    have t59 := t58.ext t9
    refine draw_rule cx_ok [] (Plan.takes [0, 1, 2, 3, 4, 5, 6, 7] (.one true 8 (Plan.takes [9, 10, 11, 12, 13] .done))) (by kernel_rfl) ?_
    intro w10 d2
    refine ⟨_, fun w' t => t.cell ((B8.ext t59).cell rfl) (by simp), _, fun w' t => t.cell ((V.ext t59).cell rfl) (by simp), _, fun w' t => (hlay (B8.ext t59)).tr t (by simp), rfl, ?_⟩
    refine ⟨?_, trivial⟩
    have t5_10 := t59.ext d2.tr
    refine call (Of11_calls (hs.ext t5_10) hn line hli) ?_
    rintro _ w11 ⟨rfl, t11⟩
    refine ⟨d2.tr.ext t11, ?_⟩
    have t5_11 := t5_10.ext t11
    refine ⟨fun _ => ⟨fun _ => ?_, fun h => absurd rfl h⟩, fun h => absurd rfl h⟩
    refine ⟨_, (B8.ext t5_11).cell rfl, _, hlay (B8.ext t5_11), rfl, ?_⟩
    refine call (Block_calls (hm.ext t5_11) (hg5.ext t5_11) hn line hli) ?_
    rintro _ w12 ⟨rfl, t12⟩
    have t5_12 := t5_11.ext t12
    intro b14 w13 n13
    have e13 := n13.num; have z13 := n13.size
    refine ⟨_, _, n13.blk, rfl, by show 0 + 4 ≤ 4; decide, rfl, fun w14 u14 => ?_⟩
    have t12_14 : Tr [] w12 w14 := u14.ext n13.tr (by omega)
    have B14 : Blk w14 b14 (bcells (blockL (loadL L) n line).1) 44 := u14.blk
    have t5_14 := t5_12.ext t12_14
    refine cut_rule (α := Nat) (fun b16 => [(7, .bool true), (14, .pointer (some ⟨b14, 0, none⟩)), (15, .int .i64 (blockL (loadL L) n line).2), (16, .pointer (some ⟨b16, 0, none⟩)), (17, .int .i64 (blockL (loadL L) n line).2)])
      (fun b16 W => Tr [] w14 W ∧ Blk W b16 (bcells (blockL (loadL L) n line).1) 44) ?_ ?_
    · refine draw_rule cx_ok [] (Plan.takes [0, 1, 2, 3, 4, 5, 6, 7] (.alt true 8 (Plan.takes [9, 10, 11] (.one true 12 (.one true 13 (Plan.takes [14] .done)))) (.alt true 12 (.one true 8 (Plan.takes [9, 10, 11] (.one true 13 (Plan.takes [14] .done)))) .stop))) (by kernel_rfl) ?_
      intro w15 d3
      have zd := d3.tr.size
      refine ⟨_, fun w' t => t.cell ((B8.ext t5_14).cell rfl) (by simp), _, fun w' t => t.cell ((V.ext t5_14).cell rfl) (by simp), _, fun w' t => (hlay (B8.ext t5_14)).tr t (by simp), rfl, ?_⟩
      refine ⟨?_, ?_, trivial⟩
      · refine call (Block11_calls (hs.ext (t5_14.ext d3.tr)) hn line hli) ?_
        rintro _ w16 ⟨rfl, t16⟩
        have q16 := d3.tr.ext t16
        have z16 := q16.size
        refine ⟨q16, ?_⟩
        refine ⟨?_, trivial⟩
        intro b16 w17 n17
        have e17 := n17.num; have z17 := n17.size
        refine ⟨q16.ext n17.tr, ?_⟩
        refine ⟨⟨_, _, n17.blk, rfl, by show 0 + 4 ≤ 4; decide, rfl, fun w18 u18 => ?_⟩, trivial⟩
        have q18 := u18.ext (q16.ext n17.tr) (by omega)
        exact ⟨q18, rfl, b16, ⟨rfl, rfl, rfl, rfl, rfl, trivial⟩, q18, u18.blk⟩
      · intro b16 w17 n17
        have e17 := n17.num; have z17 := n17.size
        have q17 := d3.tr.ext n17.tr
        refine ⟨q17, ?_⟩
        refine ⟨?_, trivial⟩
        refine call (Block11_calls (hs.ext (t5_14.ext q17)) hn line hli) ?_
        rintro _ w16 ⟨rfl, t16⟩
        have q16 := q17.ext t16
        refine ⟨q16, ?_⟩
        refine ⟨⟨_, _, (show Blk w17 b16 _ _ from n17.blk).ext t16, rfl, by show 0 + 4 ≤ 4; decide, rfl, fun w18 u18 => ?_⟩, trivial⟩
        have q18 := u18.ext q16 (by omega)
        exact ⟨q18, rfl, b16, ⟨rfl, rfl, rfl, rfl, rfl, trivial⟩, q18, u18.blk⟩
    rintro b16 w15 ⟨t15, B16⟩
    refine ⟨_, (B14.ext t15).all, rfl, _, B16.all, rfl, ?_⟩
    refine eql_flat (d := 4) (by decide) flat_block wide_block guard_block _ _ (bcells_eq _) (bcells_eq _) rfl rfl w15 ?_
    rw [decide_eq_true rfl]
    refine ⟨fun _ => ⟨rfl, t05.ext (t5_14.ext t15)⟩, fun h => absurd rfl h⟩

end Go.Proofs.YthepaakejpbppaaGreatDoor

/- The law ClassScanMatchesSpec: it returns true. -/
namespace Go.Proofs.YthepaakejpbppaaGreatDoor
open Go.E

section
variable {w : World}
/-- Same of equal pictures. -/
theorem Same_calls {X : List Int} {Y : List BlkV} {Z : List Int} (hX : X.length ≤ 1048576) (hY : Y.length ≤ 1048576) (hZ : Z.length ≤ 1048576) {s1 s2 s3 r1 r2 r3 : Value} (h1 : Sli w s1 X.length (i64s X)) (h2 : Sli w s2 Y.length (bcs Y)) (h3 : Sli w s3 Z.length (i64s Z)) (g1 : Sli w r1 X.length (i64s X)) (g2 : Sli w r2 Y.length (bcs Y)) (g3 : Sli w r3 Z.length (i64s Z)) :
    Calls cx.P 23 #[.agg #[s1, s2, s3], .agg #[r1, r2, r3]] w (Ret fun v w' => v = .bool true ∧ Tr [] w w') := by
  obtain ⟨a1, c1, e1⟩ := h1.slice
  obtain ⟨a2, c2, e2⟩ := h2.slice
  obtain ⟨a3, c3, e3⟩ := h3.slice
  obtain ⟨d1, k1, f1⟩ := g1.slice
  obtain ⟨d2, k2, f2⟩ := g2.slice
  obtain ⟨d3, k3, f3⟩ := g3.slice
  subst e1; subst e2; subst e3; subst f1; subst f2; subst f3
  refine calls_body cx_ok (args := [.agg #[.slice a1 X.length c1, .slice a2 Y.length c2, .slice a3 Z.length c3], .agg #[.slice d1 X.length k1, .slice d2 Y.length k2, .slice d3 Z.length k3]]) Tryz.func23 rfl 24 rfl rfl [.tmp 4] rfl ?_
  intro b2 w1 n1 b3 w2 n2
  have A : Blk w2 b2 [.slice a1 X.length c1, .slice a2 Y.length c2, .slice a3 Z.length c3] 59 := (show Blk w1 b2 _ _ from n1.blk).ext n2.tr
  have B : Blk w2 b3 [.slice d1 X.length k1, .slice d2 Y.length k2, .slice d3 Z.length k3] 59 := n2.blk
  have t2 := n1.tr.ext n2.tr
  refine ⟨_, A.cell rfl, _, B.cell rfl, ?_⟩
  refine call (SameI_calls w2 X X hX _ _ (h1.ext t2) (g1.ext t2)) ?_
  rintro _ w3 ⟨rfl, t3⟩
  rw [decide_eq_true rfl]
  refine ⟨_, (A.ext t3).cell rfl, _, (B.ext t3).cell rfl, ?_⟩
  refine call (SameBlocks_calls w3 Y Y hY _ _ (h2.ext (t2.ext t3)) (g2.ext (t2.ext t3))) ?_
  rintro _ w4 ⟨rfl, t4⟩
  rw [decide_eq_true rfl]
  have t24 := t3.ext t4
  refine ⟨_, (A.ext t24).cell rfl, _, (B.ext t24).cell rfl, ?_⟩
  refine call (SameI_calls w4 Z Z hZ _ _ (h3.ext (t2.ext t24)) (g3.ext (t2.ext t24))) ?_
  rintro _ w5 ⟨rfl, t5⟩
  rw [decide_eq_true rfl]
  exact ⟨rfl, (t2.ext t24).ext t5⟩
end

set_option maxHeartbeats 4000000 in
set_option maxRecDepth 100000 in
theorem ScanLaw_calls (w : World) (hg : Gl w) (ln : Nat) (hln : ln < 256) (os : List OpV) (hos : ∀ o ∈ os, o.Ok) (es : List (Int × Int)) (hes : ∀ e ∈ es, inI64 e.1) {sO sE : Value} (hO : SliZ w sO os.length (ocs os)) (hE : SliZ w sE es.length (ecells es)) :
    Calls cx.P 5 #[.agg #[.int .u8 (ln : Nat), sO, sE]] w (Ret fun x w' => x = .bool true ∧ Tr [] w w') := by
  obtain ⟨aO, cO, hsO⟩ := hO.slice
  obtain ⟨aE, cE, hsE⟩ := hE.slice
  subst hsO; subst hsE
  refine calls_body cx_ok (args := [.agg #[.int .u8 (ln : Nat), .slice aO os.length cO, .slice aE es.length cE]]) Tryz.func5 rfl 41 rfl rfl [.tmp 2] rfl ?_
  intro b3 w1 n1
  have B3 : Blk w1 b3 [.int .u8 (ln : Nat), .slice aO os.length cO, .slice aE es.length cE] 25 := n1.blk
  refine call (sanity_calls w1 (hg.ext n1.tr)) ?_
  rintro _ w2 ⟨rfl, t2⟩
  have t02 := n1.tr.ext t2
  refine ⟨_, (B3.ext t2).all, rfl, ?_⟩
  refine call (played_calls w2 (hg.ext t02) ln hln os hos es hes (hO.ext t02) (hE.ext t02)) ?_
  rintro x w3 (⟨hno, t3, cs, rfl, hcl, hc1⟩ | ⟨h80, h40, m, v, s, z, sm, span, span', F1, FS, FV, FSV, rfl, hp⟩)
  · intro b8 w4 n4
    have e4 := n4.num; have z4 := n4.size
    refine ⟨_, _, n4.blk, hcl, by show 0 + 11 ≤ 11; decide, hc1, fun w5 u5 => ?_⟩
    exact ⟨rfl, u5.ext ((t02.ext t3).ext n4.tr) (by have := t3.size; have := t02.size; omega)⟩
  · have hn : InL (64 + ln % 40) := by unfold InL; omega
    have hEl := setsE_len (64 + ln % 40) es es.length
    have hEa := setsE_all (64 + ln % 40) es es.length
    generalize 64 + ln % 40 = n at *
    generalize opsL (List.replicate n (quiet zeros8)) os os.length = L at *
    generalize setsE n es es.length = E at *
    intro b8 w4 n4
    have e4 := n4.num; have z4 := n4.size
    refine ⟨_, _, n4.blk, hcells_len n m v s, by show 0 + 11 ≤ 11; decide, hcells_one n m v s, fun w5 u5 => ?_⟩
    have B8 : Blk w5 b8 (hcells n m v s) 33 := u5.blk
    have t35 : Tr [] w3 w5 := u5.ext n4.tr (by omega)
    have t05 := (t02.ext hp.tr).ext t35
    have hm := hp.mem.ext t35
    have hs := hp.spec.ext t35
    have hg5 := hg.ext t05
    have hch := hn.chunks
    have hld := loadL_ok hm.ok
    obtain ⟨sl, V, _⟩ := hp.sview.rd.ext t35
    have k1 := startsK_len (loadL L) n (chunksN n)
    have hX : (scanC (loadL L) n).length ≤ 1048576 := by unfold scanC chunksK; simp; omega
    have hY : (scanB (loadL L) n).length ≤ 1048576 := by have := blksOf_len (loadL L) n (startsK (loadL L) n (chunksN n)); unfold scanB; omega
    have hZ : (scanX (loadL L) n).length ≤ 1048576 := by have := badOf_len (loadL L) n (startsK (loadL L) n (chunksN n)); unfold scanX; omega
    refine ⟨_, B8.cell rfl, _, hlay B8, rfl, ?_⟩
    refine call (Scan_calls hm hg5 hn) ?_
    rintro _ w6 ⟨t6, s1, s2, s3, rfl, h1, h2, h3⟩
    obtain ⟨a1, c1, e1⟩ := h1.slice
    obtain ⟨a2, c2, e2⟩ := h2.slice
    obtain ⟨a3, c3, e3⟩ := h3.slice
    subst e1; subst e2; subst e3
    intro b9 w7 n7
    have e7 := n7.num; have z7 := n7.size; have z6 := t6.size
    refine ⟨_, _, n7.blk, rfl, by show 0 + 3 ≤ 3; decide, rfl, fun w8 u8 => ?_⟩
    have t68 : Tr [] w6 w8 := u8.ext n7.tr (by omega)
    have t58 := t6.ext t68
    have BP : Blk w8 b9 [.slice a1 (scanC (loadL L) n).length c1, .slice a2 (scanB (loadL L) n).length c2, .slice a3 (scanX (loadL L) n).length c3] 59 := u8.blk
    have g1 := (h1.ext t68).sli
    have g2 := (h2.ext t68).sli
    have g3 := (h3.ext t68).sli
    refine draw_rule cx_ok [] (Plan.takes [0, 1, 2, 3, 4, 5, 6, 7, 8, 9] (.one true 10 (.one true 11 (Plan.takes [12, 13, 14, 15, 16] (.one true 17 (Plan.takes [18, 19, 20] .done)))))) (by kernel_rfl) ?_
    intro w9 d
    refine ⟨_, fun w' t => BP.all.tr t (by simp), rfl, _, fun w' t => t.cell ((B8.ext t58).cell rfl) (by simp), _, fun w' t => t.cell ((V.ext t58).cell rfl) (by simp), _, fun w' t => (hlay (B8.ext t58)).tr t (by simp), rfl, ?_⟩
    refine ⟨?_, trivial⟩
    have t59 := t58.ext d.tr
    refine call (Scan11_calls (hs.ext t59) hn) ?_
    rintro _ w10 ⟨t10, r1, r2, r3, rfl, q1, q2, q3⟩
    have t8_10 := d.tr.ext t10
    refine ⟨t8_10, ?_⟩
    refine ⟨?_, trivial⟩
    refine call (Same_calls hX hY hZ (g1.ext t8_10) (g2.ext t8_10) (g3.ext t8_10) q1.sli q2.sli q3.sli) ?_
    rintro _ w11 ⟨rfl, t11⟩
    have t8_11 := t8_10.ext t11
    refine ⟨t8_11, ?_⟩
    refine ⟨_, fun w' t => (hlay (B8.ext t58)).tr t (by simp), rfl, _, fun w' t => BP.all.tr t (by simp), rfl, ?_⟩
    refine ⟨?_, trivial⟩
    refine call (CheckPic_calls (hg5.ext (t58.ext t8_11)) hld hn (g1.ext t8_11) (g2.ext t8_11) (g3.ext t8_11)) ?_
    rintro _ w12 ⟨rfl, t12⟩
    exact ⟨t8_11.ext t12, fun _ => ⟨rfl, t05.ext ((t58.ext t8_11).ext t12)⟩, fun h => absurd rfl h⟩

end Go.Proofs.YthepaakejpbppaaGreatDoor

/- Plain law of ClassRotIsLocal: two flipped bits of a clean line make it rotten, and what a scan finds then. -/
namespace Go.Proofs.YthepaakejpbppaaGreatDoor
open Go.E

/-! The code: two bits -/

theorem xor_rc (a b c : Nat) : a ^^^ b ^^^ c = a ^^^ c ^^^ b := by rw [Nat.xor_assoc, Nat.xor_comm b c, ← Nat.xor_assoc]

theorem syn_fold (k : Nat) : ∀ (l : List Nat) (acc : Nat × Nat), l.foldl (synStep k) acc = (acc.1 ^^^ (l.foldl (synStep k) (0, 0)).1, acc.2 + (l.foldl (synStep k) (0, 0)).2)
  | [], acc => by simp
  | b :: r, acc => by
    rw [List.foldl_cons, List.foldl_cons, syn_fold k r (synStep k acc b), syn_fold k r (synStep k (0, 0) b)]
    simp only [synStep, Nat.zero_xor, Nat.xor_assoc]
    refine Prod.ext rfl ?_
    show acc.2 + 1 + _ = acc.2 + (0 + 1 + _)
    omega

theorem bitsL_two (x : Nat) : bitsL x = ((if x.testBit 0 then [0] else []) ++ (if x.testBit 1 then [1] else [])) ++ (List.range' 2 38).filter fun i => x.testBit i := by
  unfold bitsL
  have : List.range 40 = 0 :: 1 :: List.range' 2 38 := by decide
  rw [this]
  simp only [List.filter_cons]
  cases x.testBit 0 <;> cases x.testBit 1 <;> simp

theorem bits_three (x : Nat) : (x ^^^ 3).testBit 0 = !x.testBit 0 ∧ (x ^^^ 3).testBit 1 = !x.testBit 1 ∧ ((List.range' 2 38).filter fun i => (x ^^^ 3).testBit i) = (List.range' 2 38).filter fun i => x.testBit i := by
  refine ⟨by rw [Nat.testBit_xor, show (3 : Nat).testBit 0 = true by decide]; simp, by rw [Nat.testBit_xor, show (3 : Nat).testBit 1 = true by decide]; simp, ?_⟩
  refine List.filter_congr fun i hi => ?_
  have hi := List.mem_range'_1.1 hi
  rw [Nat.testBit_xor]
  have : (3 : Nat).testBit i = false := Nat.testBit_lt_two_pow (Nat.lt_of_lt_of_le (show 3 < 2 ^ 2 by decide) (Nat.pow_le_pow_right (by decide) hi.1))
  rw [this]; simp

/-- The first word, two bits flipped: the syndrome changes by 6, the number by an even one. -/
theorem synW_three (x : Nat) : (synW 0 (x ^^^ 3) (0, 0)).1 = (synW 0 x (0, 0)).1 ^^^ 6 ∧ (synW 0 (x ^^^ 3) (0, 0)).2 % 2 = (synW 0 x (0, 0)).2 % 2 := by
  obtain ⟨h0, h1, h2⟩ := bits_three x
  unfold synW
  rw [bitsL_two (x ^^^ 3), bitsL_two x, h0, h1, h2]
  obtain ⟨R, hR⟩ : ∃ R, R = (List.range' 2 38).filter fun i => x.testBit i := ⟨_, rfl⟩
  rw [← hR]
  obtain ⟨q, hq⟩ : ∃ q, q = R.foldl (synStep 0) (0, 0) := ⟨_, rfl⟩
  have key : ∀ A : List Nat, (A ++ R).foldl (synStep 0) (0, 0) = ((A.foldl (synStep 0) (0, 0)).1 ^^^ q.1, (A.foldl (synStep 0) (0, 0)).2 + q.2) := fun A => by
    rw [List.foldl_append, syn_fold 0 R, hq]
  rw [key, key]
  have p0 : posN (40 * 0 + 0) = 3 := by decide
  have p1 : posN (40 * 0 + 1) = 5 := by decide
  cases x.testBit 0 <;> cases x.testBit 1 <;> simp [synStep, p0, p1]
  · exact Nat.xor_comm _ _
  · rw [xor_rc, show (5 : Nat) ^^^ 6 = 3 by decide]
  · rw [xor_rc, show (3 : Nat) ^^^ 6 = 5 by decide]
  · rw [xor_rc, Nat.xor_self, Nat.zero_xor]

theorem synTo_two (ws ws' : List Nat) (h : ∀ j, 1 ≤ j → ws.getD j 0 = ws'.getD j 0) : ∀ k, 1 ≤ k → ∃ B C, synTo ws k = ((synTo ws 1).1 ^^^ B, (synTo ws 1).2 + C) ∧ synTo ws' k = ((synTo ws' 1).1 ^^^ B, (synTo ws' 1).2 + C)
  | 0, h0 => absurd h0 (by decide)
  | 1, _ => ⟨0, 0, by simp, by simp⟩
  | k + 2, _ => by
    obtain ⟨B, C, h1, h2⟩ := synTo_two ws ws' h (k + 1) (by omega)
    have e1 : synTo ws (k + 2) = synW (k + 1) (ws.getD (k + 1) 0) (synTo ws (k + 1)) := rfl
    have e2 : synTo ws' (k + 2) = synW (k + 1) (ws'.getD (k + 1) 0) (synTo ws' (k + 1)) := rfl
    rw [e1, e2, ← h (k + 1) (by omega)]
    unfold synW
    rw [syn_fold _ _ (synTo ws (k + 1)), syn_fold _ _ (synTo ws' (k + 1)), h1, h2]
    exact ⟨B ^^^ _, C + _, by rw [Nat.xor_assoc, Nat.add_assoc], by rw [Nat.xor_assoc, Nat.add_assoc]⟩

def rot8 : List Nat := [3, 0, 0, 0, 0, 0, 0, 0]

theorem rot_two {ws : List Nat} (h8 : ws.length = 8) {code : Nat} (h : (chk ws code).state = 0) : (chk (xorW ws rot8) code).state = 2 := by
  obtain ⟨a, b, c, d, e, f, g, i, rfl⟩ : ∃ a b c d e f g i, ws = [a, b, c, d, e, f, g, i] := by
    match ws, h8 with
    | [a, b, c, d, e, f, g, i], _ => exact ⟨a, b, c, d, e, f, g, i, rfl⟩
  have hx : xorW [a, b, c, d, e, f, g, i] rot8 = [a ^^^ 3, b, c, d, e, f, g, i] := by simp [xorW, rot8]
  rw [hx]
  obtain ⟨B, C, h1, h2⟩ := synTo_two [a, b, c, d, e, f, g, i] [a ^^^ 3, b, c, d, e, f, g, i] (fun j hj => by
    obtain ⟨j, rfl⟩ : ∃ k, j = k + 1 := ⟨j - 1, by omega⟩
    rfl) 8 (by decide)
  have s1 : synTo [a, b, c, d, e, f, g, i] 1 = synW 0 a (0, 0) := rfl
  have s2 : synTo [a ^^^ 3, b, c, d, e, f, g, i] 1 = synW 0 (a ^^^ 3) (0, 0) := rfl
  obtain ⟨q1, q2⟩ := synW_three a
  rw [s1] at h1
  rw [s2] at h2
  unfold chk syn at h ⊢
  rw [h1] at h
  rw [h2]
  generalize synW 0 (a ^^^ 3) (0, 0) = y at *
  generalize synW 0 a (0, 0) = x at *
  simp only at h ⊢
  have hpar : (y.2 + C + onesN code) % 2 = (x.2 + C + onesN code) % 2 := by omega
  have hs : y.1 ^^^ B ^^^ (code &&& 511) = (x.1 ^^^ B ^^^ (code &&& 511)) ^^^ 6 := by
    rw [q1, xor_rc x.1 6 B, xor_rc _ 6]
  rw [hpar, hs]
  by_cases hp : (x.2 + C + onesN code) % 2 = 1
  · rw [if_pos hp] at h
    split at h
    · simp at h
    · split at h
      · simp at h
      · split at h <;> simp at h
  · rw [if_neg hp] at h ⊢
    split at h
    · rename_i h0
      rw [h0]
      rfl
    · simp at h

/-! The lines -/

def rotAt (L : List Ln) (r : Nat) : List Ln := L.set r ((lnAt L r).rot rot8 0)
theorem rotAt_len (L : List Ln) (r : Nat) : (rotAt L r).length = L.length := by simp [rotAt]
theorem lnAt_set {L : List Ln} {r i : Nat} {l : Ln} (hr : r < L.length) : lnAt (L.set r l) i = if i = r then l else lnAt L i := by
  unfold lnAt
  rw [List.getD_eq_getElem?_getD, List.getD_eq_getElem?_getD]
  by_cases h : i = r
  · subst h; rw [if_pos rfl, List.getElem?_set_self hr]; rfl
  · rw [if_neg h, List.getElem?_set_ne (Ne.symm h)]

theorem rotL_two {L : List Ln} {r : Nat} (hr : r < L.length) (hp : (lnAt L r).pend = []) : rotL L (r : Nat) [3, 0, 0, 0, 0, 0, 0, 0] 0 = (0, rotAt L r) := by
  unfold rotL
  rw [if_neg (fun h => h ⟨by omega, by omega⟩), if_neg (by decide), if_neg (fun h => h (by simpa using hp))]
  simp only [Int.toNat_natCast]
  rfl

theorem fix_rot {ws : List Nat} {code : Nat} (h : (chk ws code).state = 2) : fix ws code = none := by unfold fix; rw [h]; rfl

theorem load_rot {L : List Ln} (hL : LOk L) {r : Nat} (hr : r < L.length) (hs : (chk (lnAt L r).ws (lnAt L r).code).state = 0) (a : Int) (ha : 0 ≤ a ∧ a < 8 * L.length) :
    loadL (rotAt L r) a = if a / 8 = r then (0, 9) else loadL L a := by
  have ha8 : (a.toNat / 8 : Nat) = (a / 8).toNat := by omega
  unfold loadL
  rw [rotAt_len, if_neg (by omega)]
  unfold rotAt
  rw [lnAt_set hr]
  by_cases h : a / 8 = r
  · have h' : a.toNat / 8 = r := by omega
    rw [if_pos h, if_pos h']
    have : ((lnAt L r).rot rot8 0).shows ((lnAt L r).rot rot8 0).pend.length = none := by
      unfold Ln.shows
      have h2 := rot_two (hL _ (lnAt_mem hr)).ws.len hs
      have e : ((lnAt L r).rot rot8 0).code = (lnAt L r).code := by simp [Ln.rot]
      rw [show ((lnAt L r).rot rot8 0).ws = xorW (lnAt L r).ws rot8 from rfl, e, fix_rot h2]
      rfl
    rw [this]
  · have h' : ¬ a.toNat / 8 = r := by omega
    rw [if_neg h, if_neg h', if_neg (fun h => h ha)]

/-! The scan -/

section
variable {ld ld' : Int → Int × Int} {n r : Nat}

/-- ld' is ld, but line r is rotten. -/
def RotLd (ld ld' : Int → Int × Int) (n r : Nat) : Prop := ∀ a, 0 ≤ a → a < 8 * (n : Int) → ld' a = if a / 8 = r then (0, 9) else ld a

theorem chunk_in {n : Nat} (hn : InL n) {line : Int} (h : 16 ≤ line ∧ line < 16 + 16 * (chunksN n : Int)) : 0 ≤ chunkP n line ∧ chunkP n line < chunksN n := by
  have := hn.chunks
  unfold chunkP
  rw [if_neg (by omega)]; omega

theorem assigned_same (hn : InL n) (h : RotLd ld ld' n r) (hr : 14 < r) (k : Int) : assignedL ld' n k = assignedL ld n k := by
  have hc := hn.chunks
  unfold assignedL
  by_cases hk : k < 0 ∨ (chunksN n : Int) ≤ k
  · rw [if_pos hk, if_pos hk]
  · rw [if_neg hk, if_neg hk]
    have := h (112 + k) (by omega) (by omega)
    rw [this, if_neg (show ¬ (112 + k) / 8 = (r : Int) by omega)]

theorem assigned_bad (hn : InL n) (h : RotLd ld ld' n 14) {k : Int} (hk : 0 ≤ k ∧ k < chunksN n) : assignedL ld' n k = (0, 9) := by
  have hc := hn.chunks
  unfold assignedL
  rw [if_neg (by omega)]
  have := h (112 + k) (by omega) (by omega)
  rw [this, if_pos (show (112 + k) / 8 = ((14 : Nat) : Int) by omega)]
  rfl

theorem block_same (hn : InL n) (h : RotLd ld ld' n r) (hr : 14 < r) {line : Int} (hl : 16 ≤ line ∧ line < 16 + 16 * (chunksN n : Int)) (hne : line ≠ r) : blockL ld' n line = blockL ld n line := by
  have hc := hn.chunks
  unfold blockL
  rw [assigned_same hn h hr]
  have := h (8 * line) (by omega) (by omega)
  rw [this, if_neg (show ¬ 8 * line / 8 = (r : Int) by omega)]

theorem block_bad (hn : InL n) (h : RotLd ld ld' n r) (hr : 14 < r) (hl : 16 ≤ (r : Int) ∧ (r : Int) < 16 + 16 * (chunksN n : Int)) : (blockL ld' n r).2 ≠ 0 := by
  have hc := hn.chunks
  unfold blockL
  by_cases h1 : (assignedL ld' n (chunkP n r)).2 ≠ 0
  · rw [if_pos h1]; exact h1
  · rw [if_neg h1]
    split
    · exact (by decide : (1 : Int) ≠ 0)
    · have := h (8 * r) (by omega) (by omega)
      rw [this, if_pos (show 8 * (r : Int) / 8 = r by omega), if_pos (by decide)]
      exact (by decide : (9 : Int) ≠ 0)

theorem starts_in (hn : InL n) {k : Nat} (hk : k < chunksN n) {c : Int} {line : Int} (hl : line ∈ startsL n k c) : 16 ≤ line ∧ line < 16 + 16 * (chunksN n : Int) ∧ (line - 16) / 16 = k := by
  unfold startsL at hl
  split at hl
  · cases hl
  · obtain ⟨j, hj, rfl⟩ := List.mem_map.1 hl
    have hj := List.mem_range.1 hj
    obtain ⟨f1, f2, f3, f4⟩ := pow_facts c.toNat (by omega)
    have : j * 2 ^ c.toNat + 2 ^ c.toNat ≤ 16 := by
      have := Nat.mul_le_mul_right (2 ^ c.toNat) (show j + 1 ≤ 16 / 2 ^ c.toNat by omega)
      rw [Nat.add_mul] at this; omega
    generalize j * 2 ^ c.toNat = q at *
    omega

theorem startsK_in (hn : InL n) {line : Int} (hl : line ∈ startsK ld n (chunksN n)) : 16 ≤ line ∧ line < 16 + 16 * (chunksN n : Int) := by
  unfold startsK at hl
  obtain ⟨k, hk, hl⟩ := List.mem_flatMap.1 hl
  have := starts_in hn (List.mem_range.1 hk) hl
  omega

theorem blockL_line {ld : Int → Int × Int} {n : Nat} {line : Int} (h : (blockL ld n line).2 = 0) : (blockL ld n line).1.1 = line := by
  unfold blockL at h ⊢
  by_cases h1 : (assignedL ld n (chunkP n line)).2 ≠ 0
  · rw [if_pos h1] at h; exact absurd h h1
  · rw [if_neg h1] at h ⊢
    split at h
    · exact absurd h (by decide)
    · rename_i h2
      rw [if_neg h2]
      split at h
      · rename_i h3; exact absurd h h3
      · rename_i h3
        rw [if_neg h3]
        split at h
        · exact absurd h (by decide)
        · rename_i h4; rw [if_neg h4]

/-- What stands of a block in the picture behind the rot. -/
def keepB (r : Nat) (b : BlkV) : Bool := decide (14 + (b.1 - 16) / 16 / 8 ≠ (r : Int)) && decide (b.1 ≠ r)

theorem scanC_rot (hn : InL n) (h : RotLd ld ld' n r) (hr : 14 ≤ r) : ∀ k : Nat, k < chunksN n → (scanC ld' n)[k]? = some (if 14 + k / 8 = r then -2 else chunkVal ld n k) := by
  intro k hk
  have hc := hn.chunks
  unfold scanC chunksK
  rw [List.getElem?_map, List.getElem?_range hk]
  refine congrArg some ?_
  dsimp only
  unfold chunkVal
  by_cases h14 : r = 14
  · subst h14
    rw [assigned_bad hn h (by omega), if_pos (by decide), if_pos (by omega)]
  · rw [assigned_same hn h (by omega), if_neg (show ¬ 14 + k / 8 = r by omega)]

theorem starts_rot (hn : InL n) (h : RotLd ld ld' n r) (hr : 14 ≤ r) : startsK ld' n (chunksN n) = if r = 14 then [] else startsK ld n (chunksN n) := by
  unfold startsK
  by_cases h14 : r = 14
  · rw [if_pos h14, List.flatMap_eq_nil_iff]
    intro k hk
    have hk := List.mem_range.1 hk
    subst h14
    unfold stOf chunkVal
    rw [assigned_bad hn h (by omega), if_pos (by decide)]
    unfold startsL
    rw [if_pos (by omega)]
  · rw [if_neg h14]
    have : stOf ld' n = stOf ld n := by
      funext k
      unfold stOf chunkVal
      rw [assigned_same hn h (by omega)]
    rw [this]

theorem scanB_rot (hn : InL n) (h : RotLd ld ld' n r) (hr : 14 ≤ r) : scanB ld' n = (scanB ld n).filter (keepB r) := by
  have hc := hn.chunks
  unfold scanB
  rw [starts_rot hn h hr]
  have hin := fun line hl => startsK_in (ld := ld) hn (line := line) hl
  generalize startsK ld n (chunksN n) = S at *
  unfold blksOf
  rw [List.filter_map, List.filter_filter]
  by_cases h14 : r = 14
  · rw [if_pos h14]
    have : S.filter (fun a => (keepB r ∘ fun l => (blockL ld n l).1) a && okB ld n a) = [] := by
      rw [List.filter_eq_nil_iff]
      intro l hl
      have := hin l hl
      simp only [Function.comp, Bool.and_eq_true, not_and, okB, keepB, decide_eq_true_eq]
      intro ⟨hk, _⟩ hok
      rw [blockL_line hok] at hk
      omega
    rw [this]; rfl
  · rw [if_neg h14]
    have hf : S.filter (okB ld' n) = S.filter (fun a => (keepB r ∘ fun l => (blockL ld n l).1) a && okB ld n a) := by
      refine List.filter_congr fun l hl => ?_
      have hlr := hin l hl
      simp only [Function.comp, okB, keepB]
      by_cases he : l = r
      · subst he
        rw [decide_eq_false (block_bad hn h (by omega) hlr)]
        by_cases hok : (blockL ld n r).2 = 0
        · rw [blockL_line hok]; simp
        · simp [hok]
      · rw [block_same hn h (by omega) hlr he]
        by_cases hok : (blockL ld n l).2 = 0
        · rw [blockL_line hok, decide_eq_true hok, decide_eq_true he, decide_eq_true (by omega)]; rfl
        · simp [hok]
    rw [hf]
    refine List.map_congr_left fun l hl => ?_
    obtain ⟨hl, hk⟩ := List.mem_filter.1 hl
    simp only [Function.comp, okB, keepB, Bool.and_eq_true, decide_eq_true_eq] at hk
    rw [blockL_line hk.2] at hk
    rw [block_same hn h (by omega) (hin l hl) hk.1.2]

theorem scanX_rot (hn : InL n) (h : RotLd ld ld' n r) (hr : 14 ≤ r) : (r < 16 → (scanX ld' n).length ≤ (scanX ld n).length) ∧ ((scanX ld' n).filter fun l => decide (l ≠ (r : Int))).length ≤ (scanX ld n).length := by
  have hc := hn.chunks
  unfold scanX
  rw [starts_rot hn h hr]
  have hin := fun line hl => startsK_in (ld := ld) hn (line := line) hl
  generalize startsK ld n (chunksN n) = S at *
  by_cases h14 : r = 14
  · rw [if_pos h14]; simp [badOf]
  · rw [if_neg h14]
    have e : (badOf ld' n S).filter (fun l => decide (l ≠ (r : Int))) = (badOf ld n S).filter (fun l => decide (l ≠ (r : Int))) := by
      unfold badOf
      rw [List.filter_filter, List.filter_filter]
      refine List.filter_congr fun l hl => ?_
      by_cases he : l = r
      · subst he; simp
      · unfold okB; rw [block_same hn h (by omega) (hin l hl) he]
    refine ⟨fun h16 => ?_, ?_⟩
    · have : badOf ld' n S = badOf ld n S := by
        unfold badOf
        refine List.filter_congr fun l hl => ?_
        unfold okB; rw [block_same hn h (by omega) (hin l hl) (by have := hin l hl; omega)]
      rw [this]; exact Nat.le_refl _
    · rw [e]; exact List.length_filter_le _ _

end

end Go.Proofs.YthepaakejpbppaaGreatDoor

/- The law ClassRotIsLocal: it returns true. -/
namespace Go.Proofs.YthepaakejpbppaaGreatDoor
open Go.E

section
variable {w : World} {p : Nat} {L : List Ln} {span N : Nat} {F : List Nat}
theorem IMem.pending (h : IMem w p L span N F) (hN : N < 549755813888) (r : Nat) (hr : r < L.length) :
    Calls cx.P 27 #[.pointer (some ⟨p, 0, none⟩), .int .i64 (r : Nat)] w (Ret fun v w' => Row w' 123 2 v (lnAt L r).pend.length (pcells (lnAt L r).pend) ∧ Tr [] w w') := by
  obtain ⟨bl, bm, rows, evv, nev, h1, h2, h3, h4, rfl⟩ := h
  obtain ⟨v, hv⟩ := row_at h2 hr
  have := h4 _ (lnAt_mem hr)
  exact Pending_calls h1.toMemX r hv (by dsimp only; omega)
end

theorem SliD.get {w : World} {v : Value} {n : Nat} {xs : List Value} {D : Nat → Prop} (h : SliD w v n xs D) (h0 : 0 < n) : ∃ g o c, v = .slice (some ⟨g, o, none⟩) n c ∧ n ≤ c ∧ D g ∧ Cells w g o xs := by
  obtain ⟨a, c, rfl, hc, h | ⟨g, o, rfl, hd, hcs⟩⟩ := h
  · omega
  · exact ⟨g, o, c, rfl, hc, hd, hcs⟩

theorem filter_take_succ {α : Type} (f : α → Bool) {l : List α} {k : Nat} {x : α} (h : l[k]? = some x) : (l.take (k + 1)).filter f = (l.take k).filter f ++ (if f x then [x] else []) := by
  have := (List.getElem?_eq_some_iff.1 h)
  obtain ⟨hk, rfl⟩ := this
  rw [List.take_succ_eq_append_getElem hk, List.filter_append]
  congr 1
  simp only [List.filter_cons, List.filter_nil]

set_option maxHeartbeats 4000000 in
set_option maxRecDepth 100000 in
theorem RotLaw_calls (w : World) (hg : Gl w) (ln : Nat) (hln : ln < 256) (os : List OpV) (hos : ∀ o ∈ os, o.Ok) (es : List (Int × Int)) (hes : ∀ e ∈ es, inI64 e.1) {sO sE : Value} (hO : SliZ w sO os.length (ocs os)) (hE : SliZ w sE es.length (ecells es)) (l8 : Nat) (hl8 : l8 < 256) :
    Calls cx.P 6 #[.agg #[.int .u8 (ln : Nat), sO, sE], .int .u8 (l8 : Nat)] w (Ret fun x w' => x = .bool true ∧ Tr [] w w') := by
  obtain ⟨aO, cO, hsO⟩ := hO.slice
  obtain ⟨aE, cE, hsE⟩ := hE.slice
  subst hsO; subst hsE
  refine calls_body cx_ok (args := [.agg #[.int .u8 (ln : Nat), .slice aO os.length cO, .slice aE es.length cE], .int .u8 (l8 : Nat)]) Tryz.func6 rfl 210 rfl rfl [.tmp 4] rfl ?_
  intro b3 w1 n1
  have B3 : Blk w1 b3 [.int .u8 (ln : Nat), .slice aO os.length cO, .slice aE es.length cE] 25 := n1.blk
  refine call (sanity_calls w1 (hg.ext n1.tr)) ?_
  rintro _ w2 ⟨rfl, t2⟩
  have t02 := n1.tr.ext t2
  refine ⟨_, (B3.ext t2).all, rfl, ?_⟩
  refine call (played_calls w2 (hg.ext t02) ln hln os hos es hes (hO.ext t02) (hE.ext t02)) ?_
  rintro x w3 (⟨hno, t3, cs, rfl, hcl, hc1⟩ | ⟨h80, h40, m, v, s, z, sm, span, span', F1, FS, FV, FSV, rfl, hp⟩)
  · intro b8 w4 n4
    have e4 := n4.num; have z4 := n4.size
    refine ⟨_, _, n4.blk, hcl, by show 0 + 11 ≤ 11; decide, hc1, fun w5 u5 => ?_⟩
    exact ⟨rfl, u5.ext ((t02.ext t3).ext n4.tr) (by have := t3.size; have := t02.size; omega)⟩
  · have hn : InL (64 + ln % 40) := by unfold InL; omega
    have hlen : (opsL (List.replicate (64 + ln % 40) (quiet zeros8)) os os.length).length = 64 + ln % 40 := by rw [opsL_len, List.length_replicate]
    generalize 64 + ln % 40 = n at *
    generalize opsL (List.replicate n (quiet zeros8)) os os.length = L at *
    intro b8 w4 n4
    have e4 := n4.num; have z4 := n4.size
    refine ⟨_, _, n4.blk, hcells_len n m v s, by show 0 + 11 ≤ 11; decide, hcells_one n m v s, fun w5 u5 => ?_⟩
    have B8 : Blk w5 b8 (hcells n m v s) 33 := u5.blk
    have t35 : Tr [] w3 w5 := u5.ext n4.tr (by omega)
    have t05 := (t02.ext hp.tr).ext t35
    have hm := hp.mem.ext t35
    have hg5 := hg.ext t05
    have hch := hn.chunks
    have hnn : 64 ≤ n ∧ n ≤ 103 := hn
    have hF3 : ∀ c ∈ F1, c < w3.heap.size := hp.mem.lt
    have hF0 : ∀ c ∈ F1, w2.heap.size ≤ c := fun c hc => hp.ge c (.inl hc)
    obtain ⟨r, hr⟩ : ∃ r, r = 14 + l8 % (n - 14) := ⟨_, rfl⟩
    have hrn : r < n := by have := Nat.mod_lt l8 (show 0 < n - 14 by omega); omega
    refine draw_rule cx_ok [] (Plan.takes [0, 1, 2, 3, 4, 5, 6, 7, 8, 9, 10, 11, 12, 13, 14] .done) (by kernel_rfl) ?_
    intro w6 d6
    refine ⟨_, fun w' t => t.cell (B8.cell rfl) (by simp), ((l8 : Nat) : Int), by rw [w64 (by omega)], _, fun w' t => t.cell (B8.cell rfl) (by simp), _, fun w' t => t.cell (B8.cell rfl) (by simp), ((n - 14 : Nat) : Int), by rw [w64 (by omega)]; omega, ((l8 % (n - 14) : Nat) : Int), by omega, by rw [IntWalk.rem_in _ _ (by omega)]; omega, ((r : Nat) : Int), by rw [w64 (by omega)]; omega, ?_⟩
    have B6 := B8.ext d6.tr
    have hm6 := hm.ext d6.tr
    have hg6 := hg5.ext d6.tr
    have hinb : inB L (r : Nat) := ⟨by omega, by omega⟩
    refine ⟨_, B6.cell rfl, ?_⟩
    refine call (hm6.state hg6 (r : Nat)) ?_
    rintro _ w7 ⟨rfl, t7⟩
    rw [if_pos hinb, Int.toNat_natCast]
    have t57 := d6.tr.ext t7
    have t05' := t05.ext t57
    refine ⟨fun hst => ?_, fun hst => ⟨rfl, t05'⟩⟩
    refine ⟨_, (B6.ext t7).cell rfl, ?_⟩
    have hm7 := hm6.ext t7
    refine call (hm7.pending (by omega) r (by omega)) ?_
    rintro v8 w8 ⟨hv8, t8⟩
    obtain ⟨a8, c8, rfl⟩ := (Row.slice hv8)
    have t58 := t57.ext t8
    refine ⟨fun _ => ⟨rfl, t05.ext t58⟩, fun hpe => ?_⟩
    have hpend : (lnAt L r).pend = [] := List.length_eq_zero_iff.1 (by have hpe' : ¬ (0 : Int) < ((lnAt L r).pend.length : Nat) := hpe; omega)
    have hst' : (chk (lnAt L r).ws (lnAt L r).code).state = 0 := by have hst' : ((chk (lnAt L r).ws (lnAt L r).code).state : Int) = 0 := hst; omega
    clear hv8 hpe hst
    have hm8 := hm.ext t58
    have hg8 := hg5.ext t58
    have B8' := B8.ext t58
    have z58 := t58.size
    have k1 := startsK_len (loadL L) n (chunksN n)
    have hX : (scanC (loadL L) n).length = chunksN n := by unfold scanC chunksK; simp
    have hY : (scanB (loadL L) n).length ≤ 1048576 := by have := blksOf_len (loadL L) n (startsK (loadL L) n (chunksN n)); unfold scanB; omega
    have hZ : (scanX (loadL L) n).length ≤ 1048576 := by have := badOf_len (loadL L) n (startsK (loadL L) n (chunksN n)); unfold scanX; omega
    refine ⟨_, B8'.cell rfl, _, hlay B8', rfl, ?_⟩
    refine call (Scan_calls hm8 hg8 hn) ?_
    rintro _ w9 ⟨t9, s1, s2, s3, rfl, h1, h2, h3⟩
    obtain ⟨a1, c1, e1⟩ := h1.slice
    obtain ⟨a2, c2, e2⟩ := h2.slice
    obtain ⟨a3, c3, e3⟩ := h3.slice
    subst e1; subst e2; subst e3
    intro b9 w10 n10
    have e10 := n10.num; have z10 := n10.size; have z9 := t9.size
    refine ⟨_, _, n10.blk, rfl, by show 0 + 3 ≤ 3; decide, rfl, fun w11 u11 => ?_⟩
    have t9_11 : Tr [] w9 w11 := u11.ext n10.tr (by omega)
    have t8_11 := t9.ext t9_11
    have BP : Blk w11 b9 [.slice a1 (scanC (loadL L) n).length c1, .slice a2 (scanB (loadL L) n).length c2, .slice a3 (scanX (loadL L) n).length c3] 59 := u11.blk
    have z11 := u11.size
    refine ⟨_, (B8'.ext t8_11).cell rfl, _, rfl, ?_⟩
    refine call (Rot_gen (hm8.ext t8_11) (by omega) (r : Nat) [3, 0, 0, 0, 0, 0, 0, 0] rfl 0) ?_
    rintro _ w12 ⟨rfl, FR, hm12, st12⟩
    rw [rotL_two (by omega) hpend] at hm12
    have hF8 : ∀ c ∈ F1, c < w8.heap.size := hm8.lt
    have q12 : Tr F1 w11 w12 := st12.tr
    have t2_11 := (hp.tr.ext t35).ext (t58.ext t8_11)
    obtain ⟨t2_12, hFR⟩ := fresh_step t2_11 hF0 st12
    have hb8 : b8 ∉ F1 := fun hm' => by have := hF3 b8 hm'; omega
    have hb9 : b9 ∉ F1 := fun hm' => by have := hF8 b9 hm'; omega
    have B8r := (B8'.ext t8_11).tr q12 hb8
    have BPr := BP.tr q12 hb9
    have hg12 := (hg.ext t02).ext t2_12
    have hnew : ∀ c, c ∈ F1 → ¬ (w8.heap.size ≤ c ∧ c < w9.heap.size) := fun c hc h => by have := hF8 c hc; omega
    have g1 := (h1.ext t9_11).tr q12 hnew
    have g2 := (h2.ext t9_11).tr q12 hnew
    have g3 := (h3.ext t9_11).tr q12 hnew
    clear h1 h2 h3 BP q12 st12
    have t012 := t02.ext t2_12
    have hrot : RotLd (loadL L) (loadL (rotAt L r)) n r := fun a h0 h1 => load_rot hm8.ok (by omega) hst' a ⟨h0, by omega⟩
    have hC' := scanC_rot hn hrot (by omega)
    have hB' := scanB_rot hn hrot (by omega)
    obtain ⟨hX1, hX2⟩ := scanX_rot hn hrot (by omega)
    have hZ' : (scanX (loadL (rotAt L r)) n).length ≤ 1048576 := by have := startsK_len (loadL (rotAt L r)) n (chunksN n); have := badOf_len (loadL (rotAt L r)) n (startsK (loadL (rotAt L r)) n (chunksN n)); unfold scanX; omega
    have hXl : (scanC (loadL (rotAt L r)) n).length = chunksN n := by unfold scanC chunksK; simp
    refine ⟨_, B8r.cell rfl, _, hlay B8r, rfl, ?_⟩
    refine call (Scan_calls hm12 hg12 hn) ?_
    rintro _ w13 ⟨t13, s1, s2, s3, rfl, h1, h2, h3⟩
    have z13 := t13.size
    obtain ⟨a4, c4, e4'⟩ := h1.slice
    obtain ⟨a5, c5, e5'⟩ := h2.slice
    obtain ⟨a6, c6, e6'⟩ := h3.slice
    subst e4'; subst e5'; subst e6'
    intro b10 w14 n14
    have e14 := n14.num; have z14 := n14.size
    refine ⟨_, _, n14.blk, rfl, by show 0 + 3 ≤ 3; decide, rfl, fun w15 u15 => ?_⟩
    have t13_15 : Tr [] w13 w15 := u15.ext n14.tr (by omega)
    have t12_15 := t13.ext t13_15
    have BQ : Blk w15 b10 [.slice a4 (scanC (loadL (rotAt L r)) n).length c4, .slice a5 (scanB (loadL (rotAt L r)) n).length c5, .slice a6 (scanX (loadL (rotAt L r)) n).length c6] 59 := u15.blk
    have t015 := t012.ext t12_15
    have B8F := B8r.ext t12_15
    have BPF := BPr.ext t12_15
    obtain ⟨ga, oa, ca, hsa, _, _, hca⟩ := (g1.ext t12_15).get (by rw [hX]; omega)
    obtain ⟨gb, ob, cb, hsb, _, _, hcb⟩ := (h1.ext t13_15).get (by rw [hXl]; omega)
    obtain ⟨rfl, _, rfl⟩ := Value.slice.inj hsa
    obtain ⟨rfl, _, rfl⟩ := Value.slice.inj hsb
    have g2' := (g2.ext t12_15).sli
    have g3' := (g3.ext t12_15).sli
    have q2 := (h2.ext t13_15).sli
    have q3 := (h3.ext t13_15).sli
    clear g1 g2 g3 h1 h2 h3 B8r BPr hrot hm12 hg12 u15 n14 t13 t13_15 t12_15 hFR t2_12 t2_11 hF8 hb8 hb9 u11 n10 t9 t9_11 t8_11 hm8 hg8 B8' t58 hm7 t8 hm6 hg6 B6 d6 t7 t57 t05' B8 hm hp
    generalize hCq : scanC (loadL (rotAt L r)) n = X' at *
    generalize hXq : scanX (loadL (rotAt L r)) n = Z' at *
    rw [hB'] at BQ q2
    rw [hX, hXl] at *
    have hcv : ∀ k, k < chunksN n → (scanC (loadL L) n)[k]? = some (chunkVal (loadL L) n k) := fun k hk => by
      unfold scanC chunksK
      rw [List.getElem?_map, List.getElem?_range hk]; rfl
    have hBl : ∀ b ∈ scanB (loadL L) n, 16 ≤ b.1 ∧ b.1 < 16 + 16 * (chunksN n : Int) := fun b hb => by
      unfold scanB blksOf at hb
      obtain ⟨l, hl, rfl⟩ := List.mem_map.1 hb
      obtain ⟨hl, hok⟩ := List.mem_filter.1 hl
      rw [blockL_line (of_decide_eq_true hok)]
      exact startsK_in hn hl
    generalize hBq : scanB (loadL L) n = Y at *
    generalize scanX (loadL L) n = Z at *
    have hr14 : 14 ≤ r := by omega
    refine ⟨_, BPF.cell rfl, _, B8F.cell rfl, fun _ => ?_, fun h => absurd rfl h⟩
    refine ⟨_, BQ.cell rfl, _, B8F.cell rfl, fun _ => ?_, fun h => absurd rfl h⟩
    refine loop_rule cx_ok (fun (k : Nat) W => k ≤ chunksN n ∧ Tr [] w15 W) (fun k : Nat => [(5, .bool true), (6, .pointer (some ⟨b8, 0, none⟩)), (8, .int .i64 (r : Nat)), (9, .pointer (some ⟨b9, 0, none⟩)), (10, .pointer (some ⟨b10, 0, none⟩)), (11, .int .i64 (k : Nat))]) (fun k => chunksN n - k) 0
      ⟨rfl, rfl, rfl, rfl, rfl, rfl, trivial⟩ ⟨by omega, Tr.refl _ _⟩ ?_
    rintro k W ⟨hk, tW⟩
    have B8W := B8F.ext tW
    have BPW := BPF.ext tW
    have BQW := BQ.ext tW
    refine ⟨_, B8W.cell rfl, fun hlt => ?_, fun hge => ?_⟩
    · have hkn : k < chunksN n := by omega
      have cA : W.cell? ⟨ga, oa + k * 1, none⟩ = some (.int .i64 (chunkVal (loadL L) n k)) := by rw [Nat.mul_one]; exact tW.cell (hca k _ (i64s_get (hcv k hkn))) (by simp)
      have cB : W.cell? ⟨gb, ob + k * 1, none⟩ = some (.int .i64 (if 14 + k / 8 = r then -2 else chunkVal (loadL L) n k)) := by rw [Nat.mul_one]; exact tW.cell (hcb k _ (i64s_get (hC' k hkn))) (by simp)
      refine ⟨_, BPW.cell rfl, k, rfl, hkn, _, cA, ?_⟩
      refine ⟨_, B8W.cell rfl, ((k / 8 : Nat) : Int), by decide, by rw [IntWalk.i64_quo _ _ (by omega)]; omega, ((14 + k / 8 : Nat) : Int), by rw [w64 (by omega)]; omega, fun heq => ?_, fun hne => ?_⟩
      · rw [if_pos (by omega)] at cB
        refine ⟨_, BQW.cell rfl, k, rfl, hkn, _, cB, fun _ => ?_, fun h => absurd rfl h⟩
        exact ⟨((k + 1 : Nat) : Int), by rw [w64 (by omega)]; omega, rfl, k + 1, ⟨rfl, rfl, rfl, rfl, rfl, rfl, trivial⟩, ⟨hkn, tW⟩, by omega⟩
      · rw [if_neg (by omega)] at cB
        refine ⟨_, BQW.cell rfl, k, rfl, hkn, _, cB, fun _ => ?_, fun h => absurd rfl h⟩
        exact ⟨((k + 1 : Nat) : Int), by rw [w64 (by omega)]; omega, rfl, k + 1, ⟨rfl, rfl, rfl, rfl, rfl, rfl, trivial⟩, ⟨hkn, tW⟩, by omega⟩
    · obtain rfl : k = chunksN n := by have hge' : ¬ ((k : Nat) : Int) < ((chunksN n : Nat) : Int) := hge; omega
      clear hcv hC' hca hcb hge hk
      refine loop_rule cx_ok (fun (x : Nat × Value) U => x.1 ≤ Y.length ∧ Tr [] w15 U ∧ Row U 44 4 x.2 ((Y.take x.1).filter (keepB r)).length (bcs ((Y.take x.1).filter (keepB r))) ∧ ∀ c, x.2.ownBlock = some c → w15.heap.size ≤ c)
        (fun x : Nat × Value => [(5, .bool true), (6, .pointer (some ⟨b8, 0, none⟩)), (8, .int .i64 (r : Nat)), (9, .pointer (some ⟨b9, 0, none⟩)), (10, .pointer (some ⟨b10, 0, none⟩)), (13, x.2), (14, .slice none 0 0), (15, .int .i64 (x.1 : Nat))]) (fun x => Y.length - x.1) (0, .slice none 0 0)
        ⟨rfl, rfl, rfl, rfl, rfl, rfl, rfl, rfl, trivial⟩ ⟨by dsimp only; omega, tW, World.ownsRow_nil _ _ _ _, fun b hb => by simp [Value.ownBlock] at hb⟩ ?_
      clear tW B8W BPW BQW W
      rintro ⟨k, sv⟩ W ⟨hk, tW, RW, hv⟩
      dsimp only at hk RW hv
      have zW := tW.size
      have B8W := B8F.ext tW
      have BPW := BPF.ext tW
      have BQW := BQ.ext tW
      have hkl : ((Y.take k).filter (keepB r)).length ≤ k := Nat.le_trans (List.length_filter_le _ _) (by simp; omega)
      refine ⟨_, BPW.cell rfl, fun hlt => ?_, fun hge => ?_⟩
      · have hkn : k < Y.length := by have hlt' : ((k : Nat) : Int) < ((Y.length : Nat) : Int) := hlt; omega
        obtain ⟨b, hb⟩ : ∃ b, b = Y[k] := ⟨_, rfl⟩
        have hbg : Y[k]? = some b := by rw [hb]; exact List.getElem?_eq_getElem hkn
        obtain ⟨hb1, hb2⟩ := hBl b (List.mem_of_getElem? hbg)
        obtain ⟨g, o, hag, _, hcs⟩ := (g2'.ext tW).head (by omega)
        have hcB : Cells W g (o + k * 4) (bcells b) := bcs_at hcs hbg
        have hc0 : W.cell? ⟨g, o + k * 4 + 0, none⟩ = some (.int .i64 b.1) := hcB 0 _ rfl
        rw [hag] at BPW
        have hq1 : (b.1 - 16) / 16 < 8 := by omega
        obtain ⟨q, hq⟩ : ∃ q : Int, q = (b.1 - 16) / 16 := ⟨_, rfl⟩
        refine draw_rule cx_ok [] (Plan.takes [0, 1, 2, 3, 4, 5, 6, 7, 8, 9, 10, 11] .done) (by kernel_rfl) ?_
        intro W1 d
        refine ⟨_, fun w' t => t.cell (BPW.cell rfl) (by simp), k, rfl, hkn, _, fun w' t => t.cell hc0 (by simp), _, fun w' t => t.cell (B8W.cell rfl) (by simp), b.1 - 16, by rw [w64 (by omega)], q, by decide, by rw [IntWalk.i64_quo _ _ (by omega)]; omega, ?_⟩
        have B8V := B8W.ext d.tr
        have BPV := BPW.ext d.tr
        have hc0V := d.tr.cell hc0 (by simp)
        have hcV := hcB.ext d.tr
        have RV := Row.tr RW d.tr (by simp)
        have tV := tW.ext d.tr
        have zV := tV.size
        have hft := filter_take_succ (keepB r) hbg
        have next : ∀ (sv' : Value) (W' : World), Tr [] w15 W' → Row W' 44 4 sv' ((Y.take (k + 1)).filter (keepB r)).length (bcs ((Y.take (k + 1)).filter (keepB r))) → (∀ c, sv'.ownBlock = some c → w15.heap.size ≤ c) → (k + 1 ≤ Y.length ∧ Tr [] w15 W' ∧ Row W' 44 4 sv' ((Y.take (k + 1)).filter (keepB r)).length (bcs ((Y.take (k + 1)).filter (keepB r))) ∧ ∀ c, sv'.ownBlock = some c → w15.heap.size ≤ c) := fun sv' W' h1 h2 h3 => ⟨hkn, h1, h2, h3⟩
        refine ⟨_, B8V.cell rfl, q / 8, by decide, by rw [IntWalk.i64_quo _ _ (by omega)], 14 + q / 8, by rw [w64 (by omega)], fun heq => ?_, fun hne => ?_⟩
        · have hkb : keepB r b = false := by unfold keepB; rw [decide_eq_false (by omega)]; rfl
          rw [hkb, if_neg (by decide), List.append_nil] at hft
          exact ⟨((k + 1 : Nat) : Int), by rw [w64 (by omega)]; omega, rfl, (k + 1, sv), ⟨rfl, rfl, rfl, rfl, rfl, rfl, rfl, rfl, trivial⟩, next sv W1 tV (by rw [hft]; exact RV) hv, by dsimp only; omega⟩
        · refine ⟨_, BPV.cell rfl, k, rfl, hkn, _, hc0V, fun heq => ?_, fun hne2 => ?_⟩
          · have hkb : keepB r b = false := by unfold keepB; rw [decide_eq_false (show ¬ b.1 ≠ (r : Int) by omega)]; simp
            rw [hkb, if_neg (by decide), List.append_nil] at hft
            exact ⟨((k + 1 : Nat) : Int), by rw [w64 (by omega)]; omega, rfl, (k + 1, sv), ⟨rfl, rfl, rfl, rfl, rfl, rfl, rfl, rfl, trivial⟩, next sv W1 tV (by rw [hft]; exact RV) hv, by dsimp only; omega⟩
          · have hkb : keepB r b = true := by unfold keepB; rw [decide_eq_true (by omega), decide_eq_true (by omega)]; rfl
            rw [hkb, if_pos rfl] at hft
            refine ⟨_, BPV.cell rfl, k, rfl, hkn, _, hcV, rfl, ?_⟩
            refine ⟨_, rfl, fun b11 W2 n2 => ?_⟩
            have e2 := n2.num; have z2 := n2.size
            refine append_own cx_ok (x := ⟨1, 24, false, [.slice none 0 0], .slice 44⟩) rfl rfl rfl (by decide) (Row.tr RV n2.tr (by simp)) b11 0 1 1 (bcells b) rfl n2.blk.all rfl (by omega) (by decide) ?_
            intro v5 w5' hr5 t5 hat5 _
            refine ⟨((k + 1 : Nat) : Int), by rw [w64 (by omega)]; omega, rfl, (k + 1, v5), ⟨rfl, rfl, rfl, rfl, rfl, rfl, rfl, rfl, trivial⟩, next v5 w5' ((tV.ext n2.tr).trans t5 (fun _ h => h) (fun c hc hlt => by have := hv c (by simpa using hc); omega)) ?_ (fun c hc => ?_), by dsimp only; omega⟩
            · rw [hft, bcs_app, List.length_append]
              exact hr5
            · rcases hat5 with h | h
              · exact hv c (h ▸ hc)
              · rw [h] at hc; have := Option.some.inj hc; omega
      · have hkn : k = Y.length := by have hge' : ¬ ((k : Nat) : Int) < ((Y.length : Nat) : Int) := hge; omega
        rw [hkn, List.take_length] at RW
        clear hge hkl
        have hYs := (Row.sli RW)
        have hv13 := hv
        have RW13 := RW
        obtain ⟨av, cv, rfl⟩ := Row.slice RW
        refine loop_rule cx_ok (fun (x : Nat × Value) U => x.1 ≤ Z'.length ∧ Tr [] W U ∧ Row U 3 1 x.2 ((Z'.take x.1).filter fun l => decide (l ≠ (r : Int))).length (i64s ((Z'.take x.1).filter fun l => decide (l ≠ (r : Int)))) ∧ ∀ c, x.2.ownBlock = some c → W.heap.size ≤ c)
          (fun x : Nat × Value => [(5, .bool true), (6, .pointer (some ⟨b8, 0, none⟩)), (8, .int .i64 (r : Nat)), (9, .pointer (some ⟨b9, 0, none⟩)), (10, .pointer (some ⟨b10, 0, none⟩)), (13, .slice av (Y.filter (keepB r)).length cv), (14, x.2), (17, .int .i64 (x.1 : Nat))]) (fun x => Z'.length - x.1) (0, .slice none 0 0)
          ⟨rfl, rfl, rfl, rfl, rfl, rfl, rfl, rfl, trivial⟩ ⟨by dsimp only; omega, Tr.refl _ _, World.ownsRow_nil _ _ _ _, fun b hb => by simp [Value.ownBlock] at hb⟩ ?_
        rintro ⟨j, sj⟩ U ⟨hj, tU, RU, hvj⟩
        dsimp only at hj RU hvj
        have zU := tU.size
        have B8U := B8W.ext tU
        have BPU := BPW.ext tU
        have BQU := BQW.ext tU
        have hjl : ((Z'.take j).filter fun l => decide (l ≠ (r : Int))).length ≤ j := Nat.le_trans (List.length_filter_le _ _) (by simp; omega)
        refine ⟨_, BQU.cell rfl, fun hlt => ?_, fun hge => ?_⟩
        · have hjn : j < Z'.length := by have hlt' : ((j : Nat) : Int) < ((Z'.length : Nat) : Int) := hlt; omega
          obtain ⟨b, hb⟩ : ∃ b, b = Z'[j] := ⟨_, rfl⟩
          have hbg : Z'[j]? = some b := by rw [hb]; exact List.getElem?_eq_getElem hjn
          obtain ⟨g, o, hag, _, hcs⟩ := (q3.ext (tW.ext tU)).head (by omega)
          have hc0 : U.cell? ⟨g, o + j * 1, none⟩ = some (.int .i64 b) := by rw [Nat.mul_one]; exact hcs j _ (i64s_get hbg)
          rw [hag] at BQU
          have hft := filter_take_succ (fun l : Int => decide (l ≠ (r : Int))) hbg
          refine ⟨_, BQU.cell rfl, j, rfl, hjn, _, hc0, fun heq => ?_, fun hne => ?_⟩
          · rw [decide_eq_false (show ¬ b ≠ (r : Int) by omega), if_neg (by decide), List.append_nil] at hft
            exact ⟨((j + 1 : Nat) : Int), by rw [w64 (by omega)]; omega, rfl, (j + 1, sj), ⟨rfl, rfl, rfl, rfl, rfl, rfl, rfl, rfl, trivial⟩, ⟨hjn, tU, by rw [hft]; exact RU, hvj⟩, by dsimp only; omega⟩
          · rw [decide_eq_true (show b ≠ (r : Int) by omega), if_pos rfl] at hft
            refine ⟨_, BQU.cell rfl, j, rfl, hjn, _, hc0, ?_⟩
            refine ⟨_, rfl, fun b11 W2 n2 => ?_⟩
            have e2 := n2.num; have z2 := n2.size
            refine append_own cx_ok (x := ⟨1, 24, false, [.slice none 0 0], .slice 3⟩) rfl rfl rfl (by decide) (Row.tr RU n2.tr (by simp)) b11 0 1 1 [.int .i64 b] rfl n2.blk.all rfl (by omega) (by decide) ?_
            intro v5 w5' hr5 t5 hat5 _
            refine ⟨((j + 1 : Nat) : Int), by rw [w64 (by omega)]; omega, rfl, (j + 1, v5), ⟨rfl, rfl, rfl, rfl, rfl, rfl, rfl, rfl, trivial⟩, ⟨hjn, (tU.ext n2.tr).trans t5 (fun _ h => h) (fun c hc hlt => by have := hvj c (by simpa using hc); omega), ?_, fun c hc => ?_⟩, by dsimp only; omega⟩
            · rw [hft, i64s_app, List.length_append]
              exact hr5
            · rcases hat5 with h | h
              · exact hvj c (h ▸ hc)
              · rw [h] at hc; have := Option.some.inj hc; omega
        · have hjn : j = Z'.length := by have hge' : ¬ ((j : Nat) : Int) < ((Z'.length : Nat) : Int) := hge; omega
          rw [hjn, List.take_length] at RU hjl
          obtain ⟨aj, cj, rfl⟩ := Row.slice RU
          have tend := t015.ext (tW.ext tU)
          have hfl := List.length_filter_le (keepB r) Y
          refine ⟨_, BQU.cell rfl, ?_⟩
          refine call (SameBlocks_calls U _ _ (by omega) _ _ (q2.ext (tW.ext tU)) (hYs.ext tU)) ?_
          rintro _ w20 ⟨rfl, t20⟩
          rw [decide_eq_true rfl]
          have tend' := tend.ext t20
          have last : ((Z'.filter fun l => decide (l ≠ (r : Int))).length : Int) ≤ (Z.length : Nat) := by omega
          refine ⟨_, (B8U.ext t20).cell rfl, fun h16 => ?_, fun h16 => ?_⟩
          · refine ⟨_, (BPU.ext t20).cell rfl, fun _ => ⟨rfl, tend'⟩, fun h => absurd last h⟩
          · have h16' : ¬ ((16 : Int) ≤ (r : Nat)) := h16
            have hZZ := hX1 (by omega)
            refine ⟨_, (BQU.ext t20).cell rfl, _, (BPU.ext t20).cell rfl, fun _ => ?_, fun h => absurd (show ((Z'.length : Nat) : Int) ≤ (Z.length : Nat) by omega) h⟩
            refine ⟨_, (BPU.ext t20).cell rfl, fun _ => ⟨rfl, tend'⟩, fun h => absurd last h⟩

end Go.Proofs.YthepaakejpbppaaGreatDoor
