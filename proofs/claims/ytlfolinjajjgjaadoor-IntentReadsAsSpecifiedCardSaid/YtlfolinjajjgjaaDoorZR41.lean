/- Part 2 of the proof: P5, P6, EJ, M0, EK, M1, M2, M3, M4, M5, M6, M7, I0, I1, I2 -/
import Derived.Test.YtlfolinjajjgjaaDoorZR40
import Derived.Maps.RangeRun
import Derived.Maps.AppendAt

/- Contracts of code.positions and code.Check. -/
namespace Go.Proofs.YtlfolinjajjgjaaDoor
open Go.E

def startN (i : Nat) : Nat := if i = 0 then 3 else posN (i - 1) + 1

theorem startN_spec : ∀ i, i < 320 → startN i ≤ posN i ∧ (startN i &&& (startN i - 1) = 0 → startN i + 1 = posN i) ∧ (startN i &&& (startN i - 1) ≠ 0 → startN i = posN i) ∧ posN i &&& (posN i - 1) ≠ 0 ∧ startN (i + 1) = posN i + 1 := by decide +kernel

theorem positions_calls (w : World) : Calls cx.P 97 #[] w (Ret fun v w' => v = .func (.func 102) #[] #[] ∧ w = w') := by
  refine calls_body cx_ok (args := []) Tryd.func97 rfl 1 rfl rfl [.tmp 0] rfl ?_
  exact ⟨rfl, rfl⟩

theorem positions1_calls (l : Nat) (J : Nat → World → Prop) (X : World → Prop)
    (hy : ∀ i w, i < 320 → J i w → CallYP cx l [.agg #[.int .i64 (i / 40 : Nat), .int .i64 (i % 40 : Nat)], .int .i64 (posN i : Nat)] w fun v w' => (v = .bool true ∧ J (i + 1) w') ∨ (v = .bool false ∧ X w'))
    (w : World) (h0 : J 0 w) : Calls cx.P 102 #[.func (.yield l) #[] #[]] w (Ret fun _ w' => J 320 w' ∨ X w') := by
  refine calls_body cx_ok (args := [.func (.yield l) #[] #[]]) Tryd.func102 rfl 26 rfl rfl [] rfl ?_
  refine loop_rule cx_ok (fun i w' => i ≤ 320 ∧ J i w') (fun i : Nat => [(0, .func (.yield l) #[] #[]), (4, .int .i64 i), (2, .int .i64 (startN i : Nat))]) (fun i => 320 - i) 0 ⟨rfl, rfl, rfl, trivial⟩ ⟨by omega, h0⟩ ?_
  rintro i w1 ⟨hi, hJ⟩
  refine ⟨fun h => ?_, fun h => ?_⟩
  · have hi' : i < 320 := by omega
    obtain ⟨hle, hpow, hnot, hnp, hnext⟩ := startN_spec i hi'
    have hpl := posN_lt i hi'
    refine loop_rule cx_ok (fun m w' => (m = startN i ∨ m = posN i) ∧ m ≤ posN i ∧ 1 ≤ m ∧ w1 = w') (fun m : Nat => [(0, .func (.yield l) #[] #[]), (4, .int .i64 i), (3, .int .i64 i), (2, .int .i64 m)]) (fun m => posN i - m) (startN i)
      ⟨rfl, rfl, rfl, rfl, trivial⟩ ⟨.inl rfl, hle, by unfold startN; split <;> omega, rfl⟩ ?_
    rintro m _ ⟨hm, hmle, hm1, rfl⟩
    refine ⟨((m - 1 : Nat) : Int), by rw [w64 (by omega)]; omega, _, bits_and m (m - 1) (by omega) (by omega), fun h2 => ?_, fun h2 => ?_⟩
    · have h2' : m &&& (m - 1) = 0 := by omega
      have hms : m = startN i := hm.resolve_right fun e => hnp (e ▸ h2')
      refine ⟨((m + 1 : Nat) : Int), by rw [w64 (by omega)]; omega, ?_⟩
      refine ⟨rfl, m + 1, ⟨rfl, rfl, rfl, rfl, trivial⟩, ⟨.inr ?_, ?_, by omega, rfl⟩, ?_⟩
      · rw [hms]; exact hpow (hms ▸ h2')
      · rw [hms, hpow (hms ▸ h2')]; exact Nat.le_refl _
      · have := hpow (hms ▸ h2'); omega
    · have h2' : m &&& (m - 1) ≠ 0 := by omega
      have hmp : m = posN i := hm.elim (fun e => by rw [e]; exact hnot (e ▸ h2')) id
      subst hmp
      refine ⟨((i / 40 : Nat) : Int), by decide, ?_, ((i % 40 : Nat) : Int), by decide, ?_, _, rfl, ?_⟩
      · rw [IntWalk.i64_quo _ _ (by omega)]; omega
      · rw [IntWalk.rem_in _ _ (by omega)]; omega
      refine (hy i _ hi' hJ).imp ?_
      rintro v w2 (⟨rfl, hJ2⟩ | ⟨rfl, hX⟩)
      · refine ⟨((posN i + 1 : Nat) : Int), by rw [w64 (by omega)]; omega, ((i + 1 : Nat) : Int), by rw [w64 (by omega)]; omega, ?_⟩
        exact ⟨rfl, i + 1, ⟨rfl, rfl, by rw [hnext]; rfl, trivial⟩, ⟨by omega, hJ2⟩, by omega⟩
      · exact .inr hX
  · obtain rfl : i = 320 := by omega
    exact .inl hJ

theorem posN_pow : ∀ i, i < 320 → posN i &&& (posN i - 1) ≠ 0 := fun i hi => (startN_spec i hi).2.2.2.1

theorem find_some {s i : Nat} (hi : i < 320) (hs : posN i = s) (hbefore : ∀ j, j < i → posN j ≠ s) : (List.range 320).find? (fun i => posN i == s) = some i := by
  rw [List.find?_eq_some_iff_append]
  refine ⟨by simpa using hs, List.range i, List.range' (i + 1) (320 - i - 1), range_split i 320 hi, fun j hj => ?_⟩
  have := hbefore j (List.mem_range.1 hj)
  simpa using this

theorem find_none {s : Nat} (h : ∀ j, j < 320 → posN j ≠ s) : (List.range 320).find? (fun i => posN i == s) = none := by
  rw [List.find?_eq_none]
  intro j hj
  have := h j (List.mem_range.1 hj)
  simpa using this

def stVal (s : St) : Value := .tuple #[.int .i64 (s.state : Nat), .int .i64 (s.word : Nat), .int .i64 (s.bit : Nat)]

set_option maxHeartbeats 1000000 in
theorem Check_calls (ws : List Nat) (h8 : Line8 ws) (code : Nat) (hcode : code < 1024) (w : World) (hg : Gl w) :
    Calls cx.P 89 #[.agg (wcells ws).toArray, .int .i64 code] w (Ret fun v w' => v = stVal (chk ws code) ∧ Tr [] w w') := by
  refine calls_body_m cx_ok (args := [.agg (wcells ws).toArray, .int .i64 code]) Tryd.func89 rfl 64 rfl rfl [.cell 4 3, .cell 5 3, .cell 6 3] rfl ?_
  intro b2 w1 n1 b4 w2 n2 b5 w3 n3 b6 w4 n4
  have hlen : (wcells ws).length = 8 := by simp [wcells, h8.len]
  have hsb := synTo_bd ws 8 (by omega)
  have hs1 : (syn ws).1 < 512 := hsb.1
  have hs2 : (syn ws).2 ≤ 320 := hsb.2
  have e1 := n1.num; have e2 := n2.num; have e3 := n3.num; have e4 := n4.num
  have z1 := n1.size; have z2 := n2.size; have z3 := n3.size; have z4 := n4.size
  have B2 := n1.blk.ext (n2.tr.ext (n3.tr.ext n4.tr))
  have t4 := (n1.tr.ext n2.tr).ext (n3.tr.ext n4.tr)
  refine ⟨wcells ws, B2.all, hlen, ?_⟩
  refine call (valid_calls ws h8 code hcode w4) ?_
  rintro _ w5 ⟨rfl, t5⟩
  refine ⟨wcells ws, (B2.ext t5).all, hlen, ?_⟩
  refine call (sum_calls ws h8 w5 (hg.ext (t4.ext t5))) ?_
  rintro _ w6 ⟨rfl, t6⟩
  intro b7 w7 n7
  have e7 := n7.num; have z7 := n7.size; have z5 := t5.size; have z6 := t6.size
  refine ⟨_, _, n7.blk, by decide, rfl, ?_⟩
  intro w8 u8
  have B7 := u8.blk
  have z8 := u8.size
  have hand : code &&& 511 < 512 := Nat.lt_of_le_of_lt Nat.and_le_right (by decide)
  refine ⟨_, B7.cell rfl, _, bits_and code 511 (by omega) (by decide), _, bits_xor (syn ws).1 (code &&& 511) (by omega) (by omega), _, _, B7, by show 0 < 1; decide, rfl, ?_⟩
  intro w9 u9
  have B7 := u9.blk
  have z9 := u9.size
  -- the world now against w
  have t47 : Tr [] w4 w7 := (t5.ext t6).ext n7.tr
  have t49 : Tr [] w4 w9 := (u8.ext t47 (by omega)) |> fun t => u9.ext t (by omega)
  have t9 : Tr [] w w9 := t4.ext t49
  have B4 : Blk w9 b4 [.int .i64 0] 3 := (n2.blk.ext (n3.tr.ext n4.tr)).ext t49
  have B5 : Blk w9 b5 [.int .i64 0] 3 := (n3.blk.ext n4.tr).ext t49
  have B6 : Blk w9 b6 [.int .i64 0] 3 := n4.blk.ext t49
  have hone : onesN code ≤ 10 := by
    have := List.length_filter_le (fun i => code.testBit i) (List.range 10)
    simpa [onesN] using this
  refine ⟨(code : Int), by rw [IntKind.wrap_u64]; omega, ?_⟩
  refine call (OnesCount_calls code hcode w9) ?_
  rintro _ _ ⟨rfl, rfl⟩
  obtain ⟨s, hs⟩ : ∃ s, s = (syn ws).1 ^^^ (code &&& 511) := ⟨_, rfl⟩
  rw [← hs] at B7
  have hslt : s < 512 := by rw [hs]; exact xor_lt512 hs1 hand
  refine ⟨(((syn ws).2 + onesN code : Nat) : Int), by rw [w64 (by omega)]; omega, ((((syn ws).2 + onesN code) % 2 : Nat) : Int), by decide, ?_, ?_⟩
  · rw [IntWalk.rem_in _ _ (by omega)]; omega
  -- the three results stored
  have fin : ∀ (x y z : Int) (st : St) (wa : World), Tr [] w wa → Blk wa b4 [.int .i64 0] 3 → Blk wa b5 [.int .i64 0] 3 → Blk wa b6 [.int .i64 0] 3 → chk ws code = st → x = st.state → y = st.word → z = st.bit →
      ∃ l T, Blk wa b4 l T ∧ 0 < l.length ∧ E.one (.int .i64 x) = true ∧ ∀ wb, Upd wa b4 (.cells (l.set 0 (.int .i64 x)).toArray T) wb →
      ∃ l T, Blk wb b5 l T ∧ 0 < l.length ∧ E.one (.int .i64 y) = true ∧ ∀ wc, Upd wb b5 (.cells (l.set 0 (.int .i64 y)).toArray T) wc →
      ∃ l T, Blk wc b6 l T ∧ 0 < l.length ∧ E.one (.int .i64 z) = true ∧ ∀ wd, Upd wc b6 (.cells (l.set 0 (.int .i64 z)).toArray T) wd →
      ∃ v, wd.cell? ⟨b4, 0, none⟩ = some v ∧ ∃ v1, wd.cell? ⟨b5, 0, none⟩ = some v1 ∧ ∃ v2, wd.cell? ⟨b6, 0, none⟩ = some v2 ∧ (pack [v, v1, v2] = stVal (chk ws code) ∧ Tr [] w wd) := by
    intro x y z st wa ta A4 A5 A6 hst hx hy hz
    refine ⟨_, _, A4, by decide, rfl, fun wb ub => ⟨_, _, A5.tr ub.tr (by simp; omega), by decide, rfl, fun wc uc => ⟨_, _, (A6.tr ub.tr (by simp; omega)).tr uc.tr (by simp; omega), by decide, rfl, fun wd ud => ?_⟩⟩⟩
    refine ⟨_, ((ub.blk.tr uc.tr (by simp; omega)).tr ud.tr (by simp; omega)).cell rfl, _, (uc.blk.tr ud.tr (by simp; omega)).cell rfl, _, ud.blk.cell rfl, ?_, ?_⟩
    · rw [hst, hx, hy, hz]; rfl
    · exact ud.ext (uc.ext (ub.ext ta (by omega)) (by omega)) (by omega)
  refine ⟨fun hodd => ?_, fun hodd => ?_⟩
  · have hodd' : ((syn ws).2 + onesN code) % 2 = 1 := by omega
    refine ⟨_, B7.cell rfl, fun h0 => ?_, fun h0 => ?_⟩
    · have h0' : s = 0 := by omega
      exact fin 1 8 9 ⟨1, 8, 9⟩ w9 t9 B4 B5 B6 (by unfold chk; simp only [if_pos hodd', ← hs, h0', if_true]) rfl rfl rfl
    · have h0' : s ≠ 0 := by omega
      refine ⟨_, B7.cell rfl, _, B7.cell rfl, ((s - 1 : Nat) : Int), by rw [w64 (by omega)]; omega, _, bits_and s (s - 1) (by omega) (by omega), fun hp => ?_, fun hp => ?_⟩
      · have hp' : s &&& (s - 1) = 0 := by omega
        refine ⟨_, B7.cell rfl, (s : Int), by rw [IntKind.wrap_u64]; omega, ?_⟩
        refine call (TrailingZeros_calls s h0' (by omega) w9 (hg.ext t9)) ?_
        rintro _ _ ⟨rfl, rfl⟩
        exact fin 1 8 (ctzN s : Nat) ⟨1, 8, ctzN s⟩ w9 t9 B4 B5 B6 (by unfold chk; simp only [if_pos hodd', ← hs, if_neg h0', if_pos hp']) rfl rfl rfl
      · have hp' : s &&& (s - 1) ≠ 0 := by omega
        refine call (positions_calls w9) ?_
        rintro _ _ ⟨rfl, rfl⟩
        refine range_rule cx_ok (first := []) (cap := []) (g := 102) rfl rfl ?_
        intro fn tmps bD l wa wb na nb hag
        have ea := na.num; have eb := nb.num; have za := na.size; have zb := nb.size
        have tb : Tr [] w9 wb := na.tr.ext nb.tr
        have C4 := B4.ext tb; have C5 := B5.ext tb; have C6 := B6.ext tb; have C7 := B7.ext tb
        have hbD : wb.heap[bD]? = some (.deferred (some [])) := nb.tr.get na.get (by simp)
        -- behind the loop
        have fin2 : ∀ (x y z : Int) (st : St) (wc : World), Tr [l] wb wc → chk ws code = st → x = st.state → y = st.word → z = st.bit →
            ∃ A T, Blk wc b4 A T ∧ 0 < A.length ∧ E.one (.int .i64 x) = true ∧ ∀ wd, Upd wc b4 (.cells (A.set 0 (.int .i64 x)).toArray T) wd →
            ∃ A T, Blk wd b5 A T ∧ 0 < A.length ∧ E.one (.int .i64 y) = true ∧ ∀ we, Upd wd b5 (.cells (A.set 0 (.int .i64 y)).toArray T) we →
            ∃ A T, Blk we b6 A T ∧ 0 < A.length ∧ E.one (.int .i64 z) = true ∧ ∀ wf, Upd we b6 (.cells (A.set 0 (.int .i64 z)).toArray T) wf →
            wf.heap[bD]? = some (.deferred (some [])) ∧ ∀ wg, Upd wf bD (.deferred none) wg →
            ∃ v, wg.cell? ⟨b4, 0, none⟩ = some v ∧ ∃ v1, wg.cell? ⟨b5, 0, none⟩ = some v1 ∧ ∃ v2, wg.cell? ⟨b6, 0, none⟩ = some v2 ∧ (pack [v, v1, v2] = stVal (chk ws code) ∧ Tr [] w wg) := by
          intro x y z st wc tc hst hx hy hz
          refine ⟨_, _, C4.tr tc (by simp; omega), by show 0 < 1; decide, rfl, fun wd ud => ⟨_, _, (C5.tr tc (by simp; omega)).tr ud.tr (by simp; omega), by show 0 < 1; decide, rfl, fun we ue =>
            ⟨_, _, ((C6.tr tc (by simp; omega)).tr ud.tr (by simp; omega)).tr ue.tr (by simp; omega), by show 0 < 1; decide, rfl, fun wf uf => ⟨?_, fun wg ug => ?_⟩⟩⟩⟩
          · exact uf.tr.get (ue.tr.get (ud.tr.get (tc.get hbD (by simp; omega)) (by simp; omega)) (by simp; omega)) (by simp; omega)
          · refine ⟨_, (((ud.blk.tr ue.tr (by simp; omega)).tr uf.tr (by simp; omega)).tr ug.tr (by simp; omega)).cell rfl, _, ((ue.blk.tr uf.tr (by simp; omega)).tr ug.tr (by simp; omega)).cell rfl, _, (uf.blk.tr ug.tr (by simp; omega)).cell rfl, ?_, ?_⟩
            · rw [hst, hx, hy, hz]; rfl
            · have t1 : Tr [] w wc := (t9.ext tb).trans tc (fun _ h => h) (fun c hc hlt => by simp at hc; omega)
              exact ug.ext (uf.ext (ue.ext (ud.ext t1 (by omega)) (by omega)) (by omega)) (by omega)
        refine call (positions1_calls l (fun i W => Tr [l] wb W ∧ W.heap[l]? = wb.heap[l]? ∧ ∀ j, j < i → posN j ≠ s)
          (fun W => ∃ i, i < 320 ∧ posN i = s ∧ (∀ j, j < i → posN j ≠ s) ∧ Tr [l, b4, b5, b6] wb W ∧ Blk W b4 [.int .i64 1] 3 ∧ Blk W b5 [.int .i64 (i / 40 : Nat)] 3 ∧ Blk W b6 [.int .i64 (i % 40 : Nat)] 3 ∧
            ∃ lp, W.heap[l]? = some (.loop lp) ∧ lp.state = .done ∧ lp.pending = some .ret) ?_ wb ⟨Tr.refl _ _, rfl, fun j hj => by omega⟩) ?_
        · rintro i W hi ⟨tJ, hlJ, hb⟩
          have zW := tJ.size
          refine round_rule cx_ok [55, 56] (hlJ.trans nb.get) rfl rfl rfl hag rfl ?_
          intro b10 W1 m1
          have em := m1.num; have zm := m1.size
          refine ⟨_, _, m1.blk, rfl, by show 0 + 2 ≤ 2; decide, rfl, ?_⟩
          intro W2 v2
          have zv := v2.size
          have D10 := v2.blk
          have hl2 : W2.heap[l]? = wb.heap[l]? := by
            rw [v2.tr.keep l (by omega) (by simp; omega), m1.tr.keep l (by omega) (by simp), hlJ]
          refine ⟨hl2.trans nb.get, ?_⟩
          intro W3 v3
          have zv3 := v3.size
          have t3 : Tr [l] wb W3 := (tJ.trans m1.tr (fun _ h => h) (fun _ h _ => by cases h) |>.trans v2.tr (fun _ h => h) (fun c hc hlt => by simp at hc; omega)).trans v3.tr (fun _ h => h) (fun _ h _ => h)
          have D7 := C7.tr t3 (by simp; omega)
          have D10 := D10.tr v3.tr (by simp; omega)
          refine ⟨_, D7.cell rfl, fun h => ?_, fun h => ?_⟩
          · have hpos : posN i = s := by omega
            refine draw_rule cx_ok [b4, b5] (Plan.takes [0, 1, 2, 3] (.one true 4 (.one true 5 (.one false 6 .done)))) (by kernel_rfl) ?_
            intro W4 dr
            have t4' : Tr [l] wb W4 := t3.trans dr.tr (fun _ h => h) (fun _ h _ => by cases h)
            have zd := dr.tr.size
            refine ⟨_, fun w' t => t.cell (D10.cell rfl) (by simp; omega), _, fun w' t => t.cell (D10.cell rfl) (by simp; omega), ?_⟩
            refine ⟨⟨_, _, C4.tr t4' (by simp; omega), by show 0 < 1; decide, rfl, fun W5 u5 => ⟨dr.tr.trans u5.tr (fun _ h => by cases h) (fun c h _ => by simp at h ⊢; omega), ?_⟩⟩, trivial⟩
            refine ⟨⟨_, _, (C5.tr t4' (by simp; omega)).tr u5.tr (by simp; omega), by show 0 < 1; decide, rfl, fun W6 u6 => ⟨(dr.tr.trans u5.tr (fun _ h => by cases h) (fun c h _ => by simp at h ⊢; omega)).trans u6.tr (S := [b4, b5]) (fun _ h => h) (fun c h _ => by simp at h ⊢; omega), ?_⟩⟩, trivial⟩
            refine ⟨⟨_, _, ((C6.tr t4' (by simp; omega)).tr u5.tr (by simp; omega)).tr u6.tr (by simp; omega), by show 0 < 1; decide, rfl, fun W7 u7 => ?_⟩, trivial⟩
            have z5' := u5.size; have z6' := u6.size; have z7' := u7.size
            refine ⟨_, u7.tr.get (u6.tr.get (u5.tr.get (dr.tr.get v3.get (by simp)) (by simp; omega)) (by simp; omega)) (by simp; omega), fun W8 u8' => ?_⟩
            refine .inr ⟨rfl, i, hi, hpos, hb, ?_, ?_, ?_, ?_, _, u8'.get, rfl, rfl⟩
            · have q5 : Tr [l, b4, b5, b6] wb W5 := t4'.trans u5.tr (fun c h => by simp at h ⊢; exact .inl h) (fun c h _ => by simp at h ⊢; omega)
              have q6 : Tr [l, b4, b5, b6] wb W6 := q5.trans u6.tr (fun _ h => h) (fun c h _ => by simp at h ⊢; omega)
              have q7 : Tr [l, b4, b5, b6] wb W7 := q6.trans u7.tr (fun _ h => h) (fun c h _ => by simp at h ⊢; omega)
              exact q7.trans u8'.tr (fun _ h => h) (fun c h _ => by simp at h ⊢; omega)
            · exact ((u5.blk.tr u6.tr (by simp; omega)).tr u7.tr (by simp; omega)).tr u8'.tr (by simp; omega)
            · exact ((u6.blk.tr u7.tr (by simp; omega)).tr u8'.tr (by simp; omega))
            · exact u7.blk.tr u8'.tr (by simp; omega)
          · refine ⟨_, v3.get, fun W8 u8' => .inl ⟨rfl, t3.same u8'.tr, ?_, ?_⟩⟩
            · rw [u8'.get, nb.get]
            · intro j hj
              by_cases hji : j = i
              · subst hji; omega
              · exact hb j (by omega)
        · rintro _ w3' (⟨tJ, hlJ, hall⟩ | ⟨i, hi, hpos, hb, tX, X4, X5, X6, lp, hlp, hst, hpend⟩)
          · refine ⟨_, hlJ.trans nb.get, by simp, fun w4' u4 => ?_⟩
            have tq : Tr [l] wb w4' := tJ.same u4.tr
            exact fin2 2 0 0 ⟨2, 0, 0⟩ w4' tq (by unfold chk; simp only [if_pos hodd', ← hs, if_neg h0', if_neg hp', find_none hall]) rfl rfl rfl
          · refine ⟨lp, hlp, by rw [hst]; simp, fun w4' u4 => ?_⟩
            rw [hpend]
            have zX := tX.size
            have z4' := u4.size
            refine ⟨?_, fun w5' u5 => ?_⟩
            · exact u4.tr.get (tX.get hbD (by simp; omega)) (by simp; omega)
            · refine ⟨_, ((X4.tr u4.tr (by simp; omega)).tr u5.tr (by simp; omega)).cell rfl, _, ((X5.tr u4.tr (by simp; omega)).tr u5.tr (by simp; omega)).cell rfl, _, ((X6.tr u4.tr (by simp; omega)).tr u5.tr (by simp; omega)).cell rfl, ?_, ?_⟩
              · have : chk ws code = ⟨1, i / 40, i % 40⟩ := by unfold chk; simp only [if_pos hodd', ← hs, if_neg h0', if_neg hp', find_some hi hpos hb]
                rw [this]; rfl
              · have t1 : Tr [] w w3' := (t9.ext tb).trans tX (fun _ h => h) (fun c hc hlt => by simp at hc; omega)
                exact u5.ext (u4.ext t1 (by omega)) (by omega)
  · have hodd' : ¬ ((syn ws).2 + onesN code) % 2 = 1 := by omega
    refine ⟨_, B7.cell rfl, fun h0 => ?_, fun h0 => ?_⟩
    · have h0' : s = 0 := by omega
      exact fin 0 0 0 ⟨0, 0, 0⟩ w9 t9 B4 B5 B6 (by unfold chk; simp only [if_neg hodd', ← hs, h0', if_true]) rfl rfl rfl
    · have h0' : s ≠ 0 := by omega
      exact fin 2 0 0 ⟨2, 0, 0⟩ w9 t9 B4 B5 B6 (by unfold chk; simp only [if_neg hodd', ← hs, if_neg h0']) rfl rfl rfl

end Go.Proofs.YtlfolinjajjgjaaDoor

/- Contracts of code.exists, code.Flip and code.Fix. -/
namespace Go.Proofs.YtlfolinjajjgjaaDoor
open Go.E

/-- Is there a bit? -/
def Bit (k b : Nat) : Prop := (k < 8 ∧ b < 40) ∨ (k = 8 ∧ b < 10)

theorem ctz_10 : ∀ s, s < 512 → s ≠ 0 → ctzN s < 10 := by decide +kernel

theorem chk_bit (ws : List Nat) (code : Nat) (hcode : code < 1024) (h : (chk ws code).state = 1) : Bit (chk ws code).word (chk ws code).bit := by
  have hs := (synTo_bd ws 8 (by omega)).1
  have e : (syn ws).1 = (synTo ws 8).1 := rfl
  have hand : code &&& 511 < 512 := Nat.lt_of_le_of_lt Nat.and_le_right (by decide)
  have hx : (syn ws).1 ^^^ (code &&& 511) < 512 := xor_lt512 (by omega) hand
  unfold chk at h ⊢
  dsimp only at h ⊢
  split
  · split
    · exact .inr ⟨rfl, by decide⟩
    · rename_i h0
      split
      · exact .inr ⟨rfl, ctz_10 _ hx h0⟩
      · split
        · rename_i i hi
          have := List.mem_of_find?_eq_some hi
          rw [List.mem_range] at this
          exact .inl ⟨by show i / 40 < 8; omega, by show i % 40 < 40; omega⟩
        · rename_i h1 h2 _ h4
          simp only [if_pos h1, if_neg h0, if_neg h2] at h
          rw [h4] at h
          simp at h
  · rename_i h1
    simp only [if_neg h1] at h
    split at h <;> simp at h

theorem chk_le (ws : List Nat) (code : Nat) : (chk ws code).state ≤ 2 := by
  unfold chk
  dsimp only
  split
  · split
    · decide
    · split
      · show 1 ≤ 2; decide
      · split
        · show 1 ≤ 2; decide
        · decide
  · split <;> decide

theorem exists_calls (k b : Nat) (h : Bit k b) (w : World) : Calls cx.P 98 #[.int .i64 k, .int .i64 b] w (Ret fun v w' => v = .bool true ∧ w = w') := by
  refine calls_body cx_ok (args := [.int .i64 k, .int .i64 b]) Tryd.func98 rfl 31 rfl rfl [.tmp 4] rfl ?_
  refine ⟨fun _ => ⟨fun h1 => ⟨fun _ => ⟨fun h2 => ?_, fun h2 => ?_⟩, fun h => absurd h (by omega)⟩, fun h1 => ?_⟩, fun h => absurd h (by omega)⟩
  · exact ⟨rfl, rfl⟩
  · unfold Bit at h; omega
  · refine ⟨fun h2 => ⟨fun _ => ⟨fun h3 => ?_, fun h3 => ?_⟩, fun h => absurd h (by omega)⟩, fun h2 => ?_⟩
    · exact ⟨rfl, rfl⟩
    · unfold Bit at h; omega
    · unfold Bit at h; omega

def flipW (ws : List Nat) (k b : Nat) : List Nat := if k = 8 then ws else ws.set k (ws.getD k 0 ^^^ 2 ^ b)
def flipC (code k b : Nat) : Nat := if k = 8 then code ^^^ 2 ^ b else code

theorem Line8.flip {ws : List Nat} (h8 : Line8 ws) {k b : Nat} (h : Bit k b) : Line8 (flipW ws k b) := by
  unfold flipW
  split
  · exact h8
  · rename_i hk
    have hk8 : k < 8 ∧ b < 40 := by unfold Bit at h; omega
    obtain ⟨x, _, hx, hg, _⟩ := h8.at hk8.1
    refine ⟨by simp [h8.len], fun y hy => ?_⟩
    rcases List.mem_or_eq_of_mem_set hy with hy | rfl
    · exact h8.word y hy
    · rw [hg]
      exact Nat.xor_lt_two_pow hx (Nat.pow_lt_pow_right (by decide) hk8.2)

theorem flipC_lt {code k b : Nat} (hc : code < 1024) (h : Bit k b) : flipC code k b < 1024 := by
  unfold flipC
  split
  · rename_i hk
    have hb : b < 10 := by unfold Bit at h; omega
    exact Nat.xor_lt_two_pow (n := 10) hc (Nat.pow_lt_pow_right (by decide) hb)
  · exact hc

theorem wcells_set (ws : List Nat) (k x : Nat) : wcells (ws.set k x) = (wcells ws).set k (.int .i64 x) := by simp [wcells, List.map_set]

theorem splice_all {l vs : List Value} {n : Nat} (hl : l.length = n) (hv : vs.length = n) : splice l 0 n vs = vs := by
  simp [splice, ← hl]

theorem wcells_len {ws : List Nat} (h8 : Line8 ws) : (wcells ws).length = 8 := by simp [wcells, h8.len]
theorem wcells_one (ws : List Nat) : (wcells ws).all E.one = true := by simp [wcells, E.one]

theorem Flip_calls (ws : List Nat) (h8 : Line8 ws) (code k b : Nat) (hcode : code < 1024) (hb : Bit k b) (w : World) :
    Calls cx.P 90 #[.agg (wcells ws).toArray, .int .i64 code, .int .i64 k, .int .i64 b] w (Ret fun v w' => v = .tuple #[.agg (wcells (flipW ws k b)).toArray, .int .i64 (flipC code k b : Nat)] ∧ Tr [] w w') := by
  refine calls_body cx_ok (args := [.agg (wcells ws).toArray, .int .i64 code, .int .i64 k, .int .i64 b]) Tryd.func90 rfl 31 rfl rfl [.cell 8 46, .tmp 9] rfl ?_
  intro b4 w1 n1 b8 w2 n2
  have hlen := wcells_len h8
  have e1 := n1.num; have e2 := n2.num; have z1 := n1.size; have z2 := n2.size
  have B4 : Blk w2 b4 (wcells ws) 46 := n1.blk.ext n2.tr
  have t2 := n1.tr.ext n2.tr
  have hfl := h8.flip hb
  -- the end
  have fin : ∀ (W : World) (o : List Value), Tr [] w W → Blk W b4 (wcells (flipW ws k b)) 46 → Blk W b8 o 46 → o.length = 8 →
      ∃ cs, Cells W b4 0 cs ∧ cs.length = 8 ∧ (StN W b8 0 8 cs.toArray.toList fun W' => ∃ cs2, Cells W' b8 0 cs2 ∧ cs2.length = 8 ∧ (pack [.agg cs2.toArray, .int .i64 (flipC code k b : Nat)] = .tuple #[.agg (wcells (flipW ws k b)).toArray, .int .i64 (flipC code k b : Nat)] ∧ Tr [] w W')) := by
    intro W o t A4 A8 ho
    have hl2 := wcells_len hfl
    refine ⟨_, A4.all, hl2, _, _, A8, hl2, by omega, wcells_one _, fun W' u => ⟨_, ?_, hl2, rfl, u.ext t (by omega)⟩⟩
    have := u.blk.all
    rwa [splice_all ho hl2] at this
  refine call (exists_calls k b hb w2) ?_
  rintro _ _ ⟨rfl, rfl⟩
  refine ⟨fun h => ?_, fun h => ?_⟩
  · have hk : k = 8 := by omega
    subst hk
    have hb10 : b < 10 := by unfold Bit at hb; omega
    have h2 : 2 ^ b < 2 ^ 10 := Nat.pow_lt_pow_right (by decide) hb10
    refine ⟨_, by omega, shl_nat 1 b (by omega) (by omega), ((flipC code 8 b : Nat) : Int), ?_, ?_⟩
    · rw [bits_xor _ _ (by omega) (by omega)]; simp [flipC]
    · have hws : flipW ws 8 b = ws := by simp [flipW]
      exact fin w2 _ t2 (hws ▸ B4) n2.blk rfl
  · have hk : k ≠ 8 := by omega
    have hk8 : k < 8 ∧ b < 40 := by unfold Bit at hb; omega
    obtain ⟨x, hx, hx40, hgd, hxc⟩ := h8.at hk8.1
    have h2 : 2 ^ b < 2 ^ 40 := Nat.pow_lt_pow_right (by decide) hk8.2
    refine draw_rule cx_ok [] (Plan.takes [0, 1, 2, 3, 4, 5, 6] (.one false 7 .done)) (by kernel_rfl) ?_
    intro w3 d
    have t3 := t2.ext d.tr
    refine ⟨k, rfl, hk8.1, _, fun w' t => t.cell (B4.cell (by simpa using hxc)) (by simp), ?_⟩
    refine ⟨_, by omega, shl_nat 1 b (by omega) (by omega), _, bits_xor _ _ (by omega) (by omega), ?_⟩
    refine ⟨k, rfl, hk8.1, ?_⟩
    refine ⟨⟨_, _, B4.ext d.tr, by rw [hlen]; show 0 + k * 1 < 8; omega, rfl, fun w4 u4 => ?_⟩, trivial⟩
    have hws : flipW ws k b = ws.set k (x ^^^ 1 * 2 ^ b) := by simp only [flipW, if_neg hk, hgd, Nat.one_mul]
    have hcd : flipC code k b = code := by simp [flipC, hk]
    have B4' := u4.blk
    rw [show 0 + k * 1 = k by omega, ← wcells_set, ← hws] at B4'
    have := fin w4 _ (u4.ext t3 (by omega)) B4' ((n2.blk.ext d.tr).tr u4.tr (by simp; omega)) rfl
    rwa [hcd] at this ⊢

/-- What Fix returns as values. -/
def fixVal : Option (List Nat × Nat) → Value
  | some (ws, code) => .tuple #[.agg (wcells ws).toArray, .int .i64 (code : Nat), .int .i64 0]
  | none => .tuple #[.agg (wcells (List.replicate 8 0)).toArray, .int .i64 0, .int .i64 9]

theorem flip_eq (ws : List Nat) (code : Nat) (st : St) : flip ws code st = (flipW ws st.word st.bit, flipC code st.word st.bit) := by
  unfold flip flipW flipC
  split <;> rfl

theorem fix_line {ws vs : List Nat} {code c : Nat} (h8 : Line8 ws) (hcode : code < 1024) (h : fix ws code = some (vs, c)) : Line8 vs ∧ c < 1024 := by
  unfold fix at h
  split at h
  · simp only [Option.some.injEq, Prod.mk.injEq] at h
    obtain ⟨rfl, rfl⟩ := h
    exact ⟨h8, hcode⟩
  · rename_i h1
    have hb := chk_bit ws code hcode h1
    rw [flip_eq] at h
    simp only [Option.some.injEq, Prod.mk.injEq] at h
    obtain ⟨rfl, rfl⟩ := h
    exact ⟨h8.flip hb, flipC_lt hcode hb⟩
  · simp at h

theorem Fix_calls (ws : List Nat) (h8 : Line8 ws) (code : Nat) (hcode : code < 1024) (w : World) (hg : Gl w) :
    Calls cx.P 78 #[.agg (wcells ws).toArray, .int .i64 code] w (Ret fun v w' => v = fixVal (fix ws code) ∧ Tr [] w w') := by
  refine calls_body cx_ok (args := [.agg (wcells ws).toArray, .int .i64 code]) Tryd.func78 rfl 38 rfl rfl [.cell 4 46, .tmp 5, .tmp 6] rfl ?_
  intro b2 w1 n1 b4 w2 n2
  have hlen := wcells_len h8
  have e1 := n1.num; have e2 := n2.num; have z1 := n1.size; have z2 := n2.size
  have B2 : Blk w2 b2 (wcells ws) 46 := n1.blk.ext n2.tr
  have t2 := n1.tr.ext n2.tr
  refine ⟨_, B2.all, hlen, ?_⟩
  refine call (valid_calls ws h8 code hcode w2) ?_
  rintro _ w3 ⟨rfl, t3⟩
  refine ⟨_, (B2.ext t3).all, hlen, ?_⟩
  refine call (Check_calls ws h8 code hcode w3 (hg.ext (t2.ext t3))) ?_
  rintro _ w4 ⟨rfl, t4⟩
  have z3 := t3.size; have z4 := t4.size
  have C2 := (B2.ext t3).ext t4
  have C4 := (n2.blk.ext t3).ext t4
  have tw := (t2.ext t3).ext t4
  have hle := chk_le ws code
  -- the end, with what Fix returns in the first variable
  have fin : ∀ (W : World) (vs : List Nat) (c : Nat), Line8 vs → Tr [] w W → Blk W b2 (wcells vs) 46 → Blk W b4 (List.replicate 8 (.int .i64 0)) 46 → fix ws code = some (vs, c) →
      ∃ cs, Cells W b2 0 cs ∧ cs.length = 8 ∧ (StN W b4 0 8 cs.toArray.toList fun W' => ∃ cs2, Cells W' b4 0 cs2 ∧ cs2.length = 8 ∧ (pack [.agg cs2.toArray, .int .i64 (c : Nat), .int .i64 0] = fixVal (fix ws code) ∧ Tr [] w W')) := by
    intro W vs c hv t A2 A4 hfix
    have hl2 := wcells_len hv
    refine ⟨_, A2.all, hl2, _, _, A4, hl2, by simp, wcells_one _, fun W' u => ⟨_, ?_, hl2, by rw [hfix]; rfl, u.ext t (by omega)⟩⟩
    have := u.blk.all
    rwa [splice_all (by simp) hl2] at this
  refine ⟨fun h => ?_, fun h => ⟨fun h1 => ?_, fun h1 => ?_⟩⟩
  · have hs : (chk ws code).state = 2 := by omega
    have hfix : fix ws code = none := by unfold fix; rw [hs]; rfl
    refine ⟨_, rfl, _, _, C4, rfl, by show 0 + 8 ≤ 8; decide, rfl, fun w5 u5 => ⟨_, ?_, rfl, by rw [hfix]; rfl, u5.ext tw (by omega)⟩⟩
    exact u5.blk.all
  · have hs : (chk ws code).state = 1 := by omega
    have hb := chk_bit ws code hcode hs
    refine ⟨_, C2.all, hlen, ?_⟩
    refine call (Flip_calls ws h8 code _ _ hcode hb w4) ?_
    rintro _ w5 ⟨rfl, t5⟩
    have hl2 := wcells_len (h8.flip hb)
    have z5 := t5.size
    refine ⟨_, _, C2.ext t5, hl2, by rw [hlen]; decide, wcells_one _, fun w6 u6 => ?_⟩
    have D2 := u6.blk
    rw [splice_all hlen hl2] at D2
    exact fin w6 _ _ (h8.flip hb) (u6.ext (tw.ext t5) (by omega)) D2 ((C4.ext t5).tr u6.tr (by simp; omega)) (by unfold fix; rw [hs]; show some (flip ws code (chk ws code)) = _; rw [flip_eq])
  · have hs : (chk ws code).state = 0 := by omega
    exact fin w4 ws code h8 tw C2 C4 (by unfold fix; rw [hs]; rfl)

end Go.Proofs.YtlfolinjajjgjaaDoor

/- The calculus E, part J: maps with integer keys; append. -/
namespace Go.E

theorem nodup_at {α : Type} {l : List α} (h : l.Nodup) {i j : Nat} {a : α} (hi : l[i]? = some a) (hj : l[j]? = some a) : i = j :=
  (List.getElem?_inj (List.getElem?_eq_some_iff.1 hi).1 h).1 (hi.trans hj.symm)

/-- The entries are the map m. -/
structure Ents (es : Array MapEntry) (clock : Nat) (m : Int → Option Value) : Prop where
  key : ∀ e ∈ es.toList, ∃ k, e.key = .int .i64 k ∧ m k = some e.val ∧ e.born < clock
  has : ∀ k v, m k = some v → ∃ e ∈ es.toList, e.key = .int .i64 k
  once : (es.toList.map (·.key)).Nodup
  born : (es.toList.map (·.born)).Nodup

/-- Block b is the map m. -/
def IM (w : World) (b : Nat) (m : Int → Option Value) : Prop := ∃ es clock, w.heap[b]? = some (.map es clock) ∧ Ents es clock m

theorem Ents.nil : Ents #[] 0 (fun _ => none) := ⟨by simp, by simp, by simp, by simp⟩

theorem IM.new {w w' : World} {b : Nat} (h : New w b (.map #[] 0) w') : IM w' b (fun _ => none) := ⟨_, _, h.get, Ents.nil⟩
theorem IM.lt {w : World} {b : Nat} {m : Int → Option Value} (h : IM w b m) : b < w.heap.size := let ⟨_, _, hb, _⟩ := h; lt_of_get hb
theorem IM.tr {S : List Nat} {w w' : World} {b : Nat} {m : Int → Option Value} (h : IM w b m) (t : Tr S w w') (hn : b ∉ S) : IM w' b m :=
  let ⟨es, clock, hb, he⟩ := h; ⟨es, clock, t.get hb hn, he⟩
theorem IM.congr {w : World} {b : Nat} {m m' : Int → Option Value} (h : IM w b m) (he : ∀ k, m k = m' k) : IM w b m' := by
  have : m = m' := funext he
  exact this ▸ h

theorem find_int (q : IntKind) (k : Int) : ∀ (l : List MapEntry) (i : Nat), (∀ e ∈ l, ∃ k, e.key = .int .i64 k) →
    (Instr.findNow (.int q) (.int .i64 k) l i = some none ∧ ∀ e ∈ l, e.key ≠ .int .i64 k) ∨
    ∃ j e, l[j]? = some e ∧ e.key = .int .i64 k ∧ Instr.findNow (.int q) (.int .i64 k) l i = some (some (i + j, e.val)) := by
  intro l
  induction l with
  | nil => intro i _; exact .inl ⟨rfl, by simp⟩
  | cons e r ih =>
    intro i h
    obtain ⟨k', hk'⟩ := h e (by simp)
    by_cases hk : k = k'
    · subst hk
      refine .inr ⟨0, e, by simp, hk', ?_⟩
      simp [Instr.findNow, Instr.sameNow, hk']
    · have hne : (k == k') = false := by simpa using hk
      have hf : Instr.findNow (.int q) (.int .i64 k) (e :: r) i = Instr.findNow (.int q) (.int .i64 k) r (i + 1) := by
        simp [Instr.findNow, Instr.sameNow, hk', hne]
      rw [hf]
      rcases ih (i + 1) (fun x hx => h x (by simp [hx])) with ⟨h1, h2⟩ | ⟨j, x, h1, h2, h3⟩
      · refine .inl ⟨h1, fun x hx => ?_⟩
        rcases List.mem_cons.1 hx with rfl | hx
        · rw [hk']; simp; exact fun h => hk h.symm
        · exact h2 x hx
      · exact .inr ⟨j + 1, x, by simpa using h1, h2, by rw [h3]; congr 3; omega⟩

theorem Ents.find {es : Array MapEntry} {clock : Nat} {m : Int → Option Value} (h : Ents es clock m) (q : IntKind) (k : Int) :
    (Instr.findNow (.int q) (.int .i64 k) es.toList 0 = some none ∧ m k = none ∧ ∀ e ∈ es.toList, e.key ≠ .int .i64 k) ∨
    ∃ j e, es.toList[j]? = some e ∧ e.key = .int .i64 k ∧ m k = some e.val ∧ Instr.findNow (.int q) (.int .i64 k) es.toList 0 = some (some (j, e.val)) := by
  rcases find_int q k es.toList 0 (fun e he => let ⟨k, hk, _⟩ := h.key e he; ⟨k, hk⟩) with ⟨h1, h2⟩ | ⟨j, e, h1, h2, h3⟩
  · refine .inl ⟨h1, ?_, h2⟩
    cases hm : m k with
    | none => rfl
    | some v =>
      obtain ⟨e, he, hk⟩ := h.has k v hm
      exact absurd hk (h2 e he)
  · refine .inr ⟨j, e, h1, h2, ?_, by simpa using h3⟩
    obtain ⟨k', hk', hm, _⟩ := h.key e (List.mem_of_getElem? h1)
    rw [h2] at hk'
    cases hk'
    exact hm

section
variable {c : Cx} (hc : c.Ok)
include hc

theorem under_map {t k e : Nat} {x : TI} (h : tget c.tb t = some x) (hk : x.kd = .map k e) : c.P.underlying t = some (.map k e) := by
  obtain ⟨i, d, _, hu, _, _, _, hkd, _⟩ := hc.info h
  rw [hu, kdOf_map (hk.symm.trans hkd)]

theorem under_int {t : Nat} {q : IntKind} {x : TI} (h : tget c.tb t = some x) (hk : x.kd = .int q) : c.P.underlying t = some (.int q) := by
  obtain ⟨i, d, _, hu, _, _, _, hkd, _⟩ := hc.info h
  rw [hu, kdOf_int (hk.symm.trans hkd)]

/-- 'm[k]'. -/
theorem map_lookup {t kt et : Nat} {x y : TI} {zv : Value} (ht : tget c.tb t = some x) (hx : x.kd = .map kt et) (hkt : tget c.tb kt = some y) (hy : y.kd = .int .i64) (hz : ((c.P.info? et).bind fun i => i.zero) = some zv)
    {w : World} {b : Nat} {m : Int → Option Value} (h : IM w b m) (k : Int) (ok : Bool) {K : Value → World → Prop}
    (hs : ∀ v, m k = some v → K (if ok then .tuple #[v, .bool true] else v) w)
    (hn : m k = none → K (if ok then .tuple #[zv, .bool false] else zv) w) : RunV c.P (Instr.lookup t (.map (some b)) (.int .i64 k) ok) w K := by
  obtain ⟨es, clock, hb, he⟩ := h
  have hm := under_map hc ht hx
  have hq := under_int hc hkt hy
  have hzr : (zeroValue et).run c.P w = .ok zv w := by
    obtain ⟨i, hi, hz⟩ := Option.bind_eq_some_iff.1 hz
    simp [zeroValue, typeInfo, hi, hz]
  have hck := MapKept.run_checkKey (P := c.P) (w := w) (k := .int .i64 k) hq (by simp [MapKept.IsKey]) es.isEmpty 9999
  rcases he.find .i64 k with ⟨h1, h2, _⟩ | ⟨j, e, h1, h2, h3, h4⟩
  · refine ⟨_, w, ?_, hn h2⟩
    have hf := MapKept.run_findKey (w := w) hq h1
    simp [Instr.lookup, run_underlying hm, MapKept.run_getObj_map hb, hck, hf, hzr, Result.andThen]
  · refine ⟨_, w, ?_, hs _ h3⟩
    have hf := MapKept.run_findKey (w := w) hq h4
    simp [Instr.lookup, run_underlying hm, MapKept.run_getObj_map hb, hck, hf, Result.andThen]

def setM (m : Int → Option Value) (k : Int) (v : Value) : Int → Option Value := fun j => if j = k then some v else m j
def delM (m : Int → Option Value) (k : Int) : Int → Option Value := fun j => if j = k then none else m j

omit hc in
theorem Ents.set_new {es : Array MapEntry} {clock : Nat} {m : Int → Option Value} (h : Ents es clock m) {k : Int} (hk : ∀ e ∈ es.toList, e.key ≠ .int .i64 k) (v : Value) :
    Ents (es.push { key := .int .i64 k, val := v, born := clock }) (clock + 1) (setM m k v) := by
  refine ⟨fun e he => ?_, fun j u hj => ?_, ?_, ?_⟩
  · simp only [Array.toList_push, List.mem_append, List.mem_singleton] at he
    rcases he with he | rfl
    · obtain ⟨k', h1, h2, h3⟩ := h.key e he
      refine ⟨k', h1, ?_, by omega⟩
      have : k' ≠ k := fun e' => hk e he (by rw [h1, e'])
      simp [setM, this, h2]
    · exact ⟨k, rfl, by simp [setM], by simp⟩
  · simp only [Array.toList_push, List.mem_append, List.mem_singleton]
    by_cases hjk : j = k
    · subst hjk; exact ⟨_, .inr rfl, rfl⟩
    · simp only [setM, hjk, if_false] at hj
      obtain ⟨e, he, hke⟩ := h.has j u hj
      exact ⟨e, .inl he, hke⟩
  · simp only [Array.toList_push, List.map_append, List.map_cons, List.map_nil]
    rw [List.nodup_append]
    refine ⟨h.once, by simp, fun a ha b hb => ?_⟩
    simp only [List.mem_singleton] at hb
    obtain ⟨e, he, rfl⟩ := List.mem_map.1 ha
    rw [hb]; exact hk e he
  · simp only [Array.toList_push, List.map_append, List.map_cons, List.map_nil]
    rw [List.nodup_append]
    refine ⟨h.born, by simp, fun a ha b hb => ?_⟩
    simp only [List.mem_singleton] at hb
    obtain ⟨e, he, rfl⟩ := List.mem_map.1 ha
    obtain ⟨_, _, _, h3⟩ := h.key e he
    rw [hb]; omega

omit hc in
theorem map_modify_eq {α β : Type} (f : α → β) (g : α → α) : ∀ (l : List α) (j : Nat) (e : α), l[j]? = some e → f (g e) = f e → (l.modify j g).map f = l.map f := by
  intro l j e he hg
  apply List.ext_getElem?
  intro i
  simp only [List.getElem?_map, List.getElem?_modify]
  by_cases hi : j = i
  · subst hi; simp [he, hg]
  · simp [hi]

omit hc in
theorem Ents.set_old {es : Array MapEntry} {clock : Nat} {m : Int → Option Value} (h : Ents es clock m) {k : Int} {j : Nat} {e : MapEntry} (he : es.toList[j]? = some e) (hk : e.key = .int .i64 k) (v : Value) :
    Ents (es.modify j fun e => { e with key := .int .i64 k, val := v }) clock (setM m k v) := by
  have hl : (es.modify j fun e => { e with key := .int .i64 k, val := v }).toList = es.toList.modify j (fun e => { e with key := .int .i64 k, val := v }) := by simp
  have hkeys : (es.toList.modify j (fun e => { e with key := .int .i64 k, val := v })).map (·.key) = es.toList.map (·.key) := map_modify_eq _ _ _ _ e he (by simp [hk])
  have hborn : (es.toList.modify j (fun e => { e with key := .int .i64 k, val := v })).map (·.born) = es.toList.map (·.born) := map_modify_eq _ _ _ _ e he rfl
  refine ⟨fun x hx => ?_, fun i u hi => ?_, ?_, ?_⟩
  · rw [hl] at hx
    obtain ⟨i, hi⟩ := List.mem_iff_getElem?.1 hx
    rw [List.getElem?_modify] at hi
    by_cases hij : j = i
    · subst hij
      simp only [he, Option.map_some, if_true, Option.some.injEq, Option.map_eq_map] at hi
      subst hi
      obtain ⟨k', h1, h2, h3⟩ := h.key e (List.mem_of_getElem? he)
      exact ⟨k, rfl, by simp [setM], h3⟩
    · simp only [hij, if_false] at hi
      have hi' : es.toList[i]? = some x := by simpa using hi
      obtain ⟨k', h1, h2, h3⟩ := h.key x (List.mem_of_getElem? hi')
      refine ⟨k', h1, ?_, h3⟩
      have : k' ≠ k := fun ek => by
        subst ek
        have e1 : (es.toList.map (·.key))[i]? = some (.int .i64 k') := by rw [List.getElem?_map, hi']; simp [h1]
        have e2 : (es.toList.map (·.key))[j]? = some (.int .i64 k') := by rw [List.getElem?_map, he]; simp [hk]
        exact hij (nodup_at h.once e2 e1)
      simp [setM, this, h2]
  · have hmem : Value.int .i64 i ∈ (es.modify j fun e => { e with key := .int .i64 k, val := v }).toList.map (·.key) := by
      rw [hl, hkeys]
      by_cases hik : i = k
      · subst hik; exact List.mem_map.2 ⟨e, List.mem_of_getElem? he, hk⟩
      · simp only [setM, hik, if_false] at hi
        obtain ⟨x, hx, hkx⟩ := h.has i u hi
        exact List.mem_map.2 ⟨x, hx, hkx⟩
    obtain ⟨x, hx, hkx⟩ := List.mem_map.1 hmem
    exact ⟨x, hx, hkx⟩
  · rw [hl, hkeys]; exact h.once
  · rw [hl, hborn]; exact h.born

omit hc in
theorem Ents.del {es : Array MapEntry} {clock : Nat} {m : Int → Option Value} (h : Ents es clock m) {k : Int} {j : Nat} {e : MapEntry} (he : es.toList[j]? = some e) (hk : e.key = .int .i64 k) :
    Ents (es.eraseIdxIfInBounds j) clock (delM m k) ∧ ∀ x ∈ (es.eraseIdxIfInBounds j).toList, x ∈ es.toList := by
  have hlt : j < es.size := by have := (List.getElem?_eq_some_iff.1 he).1; simpa using this
  have hl : (es.eraseIdxIfInBounds j).toList = es.toList.eraseIdx j := by
    rw [Array.eraseIdxIfInBounds, dif_pos hlt]; simp
  have hmem : ∀ x ∈ (es.eraseIdxIfInBounds j).toList, x ∈ es.toList := fun x hx => by rw [hl] at hx; exact List.mem_of_mem_eraseIdx hx
  have hnk : ∀ x ∈ (es.eraseIdxIfInBounds j).toList, x.key ≠ .int .i64 k := by
    intro x hx hkx
    rw [hl] at hx
    obtain ⟨i, hi, hxi⟩ := List.mem_eraseIdx_iff_getElem?.1 hx
    have e1 : (es.toList.map (·.key))[i]? = some (.int .i64 k) := by rw [List.getElem?_map, hxi]; simp [hkx]
    have e2 : (es.toList.map (·.key))[j]? = some (.int .i64 k) := by rw [List.getElem?_map, he]; simp [hk]
    exact hi (nodup_at h.once e1 e2)
  refine ⟨⟨fun x hx => ?_, fun i u hi => ?_, ?_, ?_⟩, hmem⟩
  · obtain ⟨k', h1, h2, h3⟩ := h.key x (hmem x hx)
    refine ⟨k', h1, ?_, h3⟩
    have : k' ≠ k := fun ek => hnk x hx (by rw [h1, ek])
    simp [delM, this, h2]
  · have hik : i ≠ k := fun ek => by simp [delM, ek] at hi
    simp only [delM, hik, if_false] at hi
    obtain ⟨x, hx, hkx⟩ := h.has i u hi
    refine ⟨x, ?_, hkx⟩
    rw [hl, List.mem_eraseIdx_iff_getElem?]
    obtain ⟨p, hp⟩ := List.mem_iff_getElem?.1 hx
    refine ⟨p, fun e' => ?_, hp⟩
    subst e'
    rw [he] at hp
    cases hp
    rw [hk] at hkx
    cases hkx
    exact hik rfl
  · rw [hl]; exact h.once.sublist ((List.eraseIdx_sublist _ _).map _)
  · rw [hl]; exact h.born.sublist ((List.eraseIdx_sublist _ _).map _)

/-- 'm[k] = v'. -/
theorem map_update {t kt et : Nat} {x y : TI} (ht : tget c.tb t = some x) (hx : x.kd = .map kt et) (hkt : tget c.tb kt = some y) (hy : y.kd = .int .i64)
    {w : World} {b : Nat} {m : Int → Option Value} (h : IM w b m) (k : Int) (v : Value) {K : World → Prop}
    (hK : ∀ o w', Upd w b o w' → IM w' b (setM m k v) → K w') : RunU c.P (Instr.mapUpdate t (.map (some b)) (.int .i64 k) v) w K := by
  obtain ⟨es, clock, hb, he⟩ := h
  have hm := under_map hc ht hx
  have hq := under_int hc hkt hy
  have hck := MapKept.run_checkKey (P := c.P) (w := w) (k := .int .i64 k) hq (by simp [MapKept.IsKey]) false 9999
  rcases he.find .i64 k with ⟨h1, _, h2⟩ | ⟨j, e, h1, h2, h3, h4⟩
  · have hf := MapKept.run_findKey (w := w) hq h1
    refine ⟨_, ?_, hK (.map (es.push { key := .int .i64 k, val := v, born := clock }) (clock + 1)) _ ⟨lt_of_get hb, rfl⟩ ⟨_, _, by simp [lt_of_get hb], he.set_new h2 v⟩⟩
    simp [Instr.mapUpdate, run_underlying hm, MapKept.run_getObj_map hb, hck, hf, MapKept.run_setObj_map _ hb, Result.andThen]
  · have hf := MapKept.run_findKey (w := w) hq h4
    have hks := MapKept.run_keyThatStays (P := c.P) (w := w) (d := .int .i64) (k := .int .i64 k) (by simp [MapKept.IsKey])
    have hej : ((es[j]?).map (·.key)).getD (.int .i64 k) = .int .i64 k := by
      rw [← Array.getElem?_toList, h1]; simp [h2]
    refine ⟨_, ?_, hK (.map (es.modify j fun e => { e with key := .int .i64 k, val := v }) clock) _ ⟨lt_of_get hb, rfl⟩ ⟨_, _, by simp [lt_of_get hb], he.set_old h1 h2 v⟩⟩
    simp only [Instr.mapUpdate, Sem.run_bind, run_underlying hm, MapKept.run_getObj_map hb, hck, hf, Result.andThen, hej, hks, MapKept.run_setObj_map _ hb]

/-- 'delete(m, k)'. -/
theorem map_delete {t kt et ty : Nat} {ats : Array TypeId} {x y : TI} (hats : ats[0]? = some t) (ht : tget c.tb t = some x) (hx : x.kd = .map kt et) (hkt : tget c.tb kt = some y) (hy : y.kd = .int .i64)
    {w : World} {b : Nat} {m : Int → Option Value} (h : IM w b m) (k : Int) {K : Value → World → Prop}
    (hK : ∀ o w', Upd w b o w' → IM w' b (delM m k) → K (.tuple #[]) w') : RunV c.P (Builtin.delete_ ats ty #[.map (some b), .int .i64 k]) w K := by
  obtain ⟨es, clock, hb, he⟩ := h
  have hm := under_map hc ht hx
  have hq := under_int hc hkt hy
  have hck := MapKept.run_checkKey (P := c.P) (w := w) (k := .int .i64 k) hq (by simp [MapKept.IsKey]) es.isEmpty 9999
  rcases he.find .i64 k with ⟨h1, h0, h2⟩ | ⟨j, e, h1, h2, h3, h4⟩
  · have hf := MapKept.run_findKey (w := w) hq h1
    have hdel : delM m k = m := by
      funext j
      unfold delM
      split
      · rename_i hj; rw [hj, h0]
      · rfl
    refine ⟨_, _, ?_, hK (.map es clock) _ ⟨lt_of_get hb, rfl⟩ ⟨es, clock, by simp [lt_of_get hb], hdel.symm ▸ he⟩⟩
    simp [Builtin.delete_, hats, run_underlying hm, MapKept.run_getObj_map hb, hck, hf, MapKept.run_setObj_map _ hb, Result.andThen]
  · have hf := MapKept.run_findKey (w := w) hq h4
    refine ⟨_, _, ?_, hK (.map (es.eraseIdxIfInBounds j) clock) _ ⟨lt_of_get hb, rfl⟩ ⟨es.eraseIdxIfInBounds j, clock, by simp [lt_of_get hb], (he.del h1 h2).1⟩⟩
    simp [Builtin.delete_, hats, run_underlying hm, MapKept.run_getObj_map hb, hck, hf, MapKept.run_setObj_map _ hb, Result.andThen]

/-- 'clear(m)'. -/
theorem map_clear {t kt et ty : Nat} {ats : Array TypeId} {x : TI} (hats : ats[0]? = some t) (ht : tget c.tb t = some x) (hx : x.kd = .map kt et)
    {w : World} {b : Nat} {m : Int → Option Value} (h : IM w b m) {K : Value → World → Prop}
    (hK : ∀ o w', Upd w b o w' → IM w' b (fun _ => none) → K (.tuple #[]) w') : RunV c.P (Builtin.clear_ ats ty #[.map (some b)]) w K := by
  obtain ⟨es, clock, hb, he⟩ := h
  have hm := under_map hc ht hx
  refine ⟨_, _, ?_, hK (.map #[] clock) _ ⟨lt_of_get hb, rfl⟩ ⟨#[], clock, by simp [lt_of_get hb], ⟨by simp, by simp, by simp, by simp⟩⟩⟩
  simp [Builtin.clear_, hats, run_underlying hm, MapKept.run_getObj_map hb, MapKept.run_setObj_map _ hb, Result.andThen]

/-! range -/

/-- A loop over the map in block b, its iterator in block r: 'left' are the keys still to come, at most cnt. -/
def IR (w : World) (b r : Nat) (m : Int → Option Value) (left : Int → Prop) (cnt : Nat) : Prop :=
  ∃ es clock since seen c0, w.heap[b]? = some (.map es clock) ∧ Ents es clock m ∧ w.heap[r]? = some (.mapIter (some b) since seen c0) ∧ (∀ x ∈ es.toList, x.born < since) ∧ since ≤ c0 ∧ since ≤ clock ∧
    (∀ k, left k ↔ ∃ e ∈ es.toList, e.key = .int .i64 k ∧ seen.contains e.born = false) ∧ (leftOf es seen).size = cnt

omit hc in
theorem IR.im {w : World} {b r : Nat} {m : Int → Option Value} {left : Int → Prop} {cnt : Nat} (h : IR w b r m left cnt) : IM w b m := by
  obtain ⟨es, clock, _, _, _, hb, he, _⟩ := h
  exact ⟨es, clock, hb, he⟩
omit hc in
theorem IR.tr {S : List Nat} {w w' : World} {b r : Nat} {m : Int → Option Value} {left : Int → Prop} {cnt : Nat} (h : IR w b r m left cnt) (t : Tr S w w') (hb : b ∉ S) (hr : r ∉ S) : IR w' b r m left cnt := by
  obtain ⟨es, clock, since, seen, c0, h1, h2, h3, rest⟩ := h
  exact ⟨es, clock, since, seen, c0, t.get h1 hb, h2, t.get h3 hr, rest⟩
omit hc in
theorem IR.ne {w : World} {b r : Nat} {m : Int → Option Value} {left : Int → Prop} {cnt : Nat} (h : IR w b r m left cnt) : r ≠ b := by
  obtain ⟨es, clock, since, seen, c0, h1, h2, h3, rest⟩ := h
  intro e
  rw [e, h1] at h3
  cases h3

theorem map_range {t kt et : Nat} {x : TI} (ht : tget c.tb t = some x) (hx : x.kd = .map kt et)
    {w : World} {b : Nat} {m : Int → Option Value} (h : IM w b m) {K : Value → World → Prop}
    (hK : ∀ r o w' cnt, New w r o w' → IR w' b r m (fun k => m k ≠ none) cnt → K (.pointer (some ⟨r, 0, none⟩)) w') : RunV c.P (Instr.range t (.map (some b))) w K := by
  obtain ⟨es, clock, hb, he⟩ := h
  have hm := under_map hc ht hx
  refine ⟨_, { w with heap := w.heap.push (.mapIter (some b) clock #[] clock) }, ?_, hK w.heap.size _ _ _ ⟨rfl, rfl⟩ ⟨es, clock, clock, #[], clock, ?_, he, by simp, fun x hx => ?_, Nat.le_refl _, Nat.le_refl _, fun k => ?_, rfl⟩⟩
  · simp [Instr.range, run_underlying hm, getObj, Sem.run, hb, newObj, Result.andThen]
  · have := lt_of_get hb
    simp only [Array.getElem?_push]
    rw [if_neg (by omega)]; exact hb
  · obtain ⟨_, _, _, h3⟩ := he.key x hx
    exact h3
  · constructor
    · intro hk
      cases hmk : m k with
      | none => exact absurd hmk hk
      | some v =>
        obtain ⟨e, he', hke⟩ := he.has k v hmk
        exact ⟨e, he', hke, by simp⟩
    · rintro ⟨e, he', hke, _⟩
      obtain ⟨k', h1, h2, _⟩ := he.key e he'
      rw [hke] at h1
      cases h1
      rw [h2]; simp

omit hc in
theorem Ents.born_inj {es : Array MapEntry} {clock : Nat} {m : Int → Option Value} (h : Ents es clock m) {x y : MapEntry} (hx : x ∈ es.toList) (hy : y ∈ es.toList) (hb : x.born = y.born) : x = y := by
  obtain ⟨i, hi⟩ := List.mem_iff_getElem?.1 hx
  obtain ⟨j, hj⟩ := List.mem_iff_getElem?.1 hy
  have e1 : (es.toList.map (·.born))[i]? = some x.born := by rw [List.getElem?_map, hi]; rfl
  have e2 : (es.toList.map (·.born))[j]? = some x.born := by rw [List.getElem?_map, hj, hb]; rfl
  obtain rfl := nodup_at h.born e1 e2
  rw [hi] at hj
  exact Option.some.inj hj

omit hc in
/-- The step of the loop. -/
theorem map_next {P : Program} {ty : Nat} {w : World} {b r : Nat} {m : Int → Option Value} {left : Int → Prop} {cnt : Nat} (h : IR w b r m left cnt) {K : Value → World → Prop}
    (hdone : (∀ k, ¬ left k) → K (.tuple #[.bool false]) w)
    (hstep : ∀ k v w' cnt', left k → m k = some v → cnt' < cnt → Tr [r] w w' → IR w' b r m (fun j => left j ∧ j ≠ k) cnt' →
      (Instr.entry (.pointer (some ⟨r, 0, none⟩))).run P w' = .ok (.tuple #[.int .i64 k, v]) w' → K (.tuple #[.bool true, .int .i64 k, v]) w') :
    RunV P (Instr.next (.pointer (some ⟨r, 0, none⟩)) false ty) w K := by
  have hne := h.ne
  obtain ⟨es, clock, since, seen, c0, hb, he, hr, hold, hsc, hsk, hl, rfl⟩ := h
  rcases run_next_at (P := P) w ty r b since c0 seen es clock hr hb hold hsc with ⟨h0, hrun⟩ | ⟨e, hel, w1, hal, hrun⟩
  · refine ⟨_, w, hrun, hdone fun k hk => ?_⟩
    obtain ⟨x, hx, _, hs⟩ := (hl k).1 hk
    have : x ∈ (leftOf es seen).toList := by simp [leftOf]; exact ⟨by simpa using hx, by simpa using hs⟩
    have hsz : (leftOf es seen).toList.length = 0 := by simpa using h0
    rw [List.length_eq_zero_iff.1 hsz] at this
    cases this
  · obtain ⟨hem, hes⟩ := mem_left hel
    obtain ⟨k, hk, hmk, _⟩ := he.key e hem
    have hr1 : w1.heap[r]? = some (.mapIter (some b) since seen c0) := by rcases hal with rfl | rfl <;> exact hr
    have hb1 : w1.heap[b]? = some (.map es clock) := by rcases hal with rfl | rfl <;> exact hb
    have hset := MapKept.heap_set (w := w1) (o' := .mapIter (some b) since (seen.push e.born) clock) hr1
    have hb' : (ChangeMaps.setBlock w1 r (.mapIter (some b) since (seen.push e.born) clock)).heap[b]? = some (.map es clock) := (hset.2 b (fun e1 => hne e1.symm)).trans hb1
    rw [hk] at hrun
    refine ⟨_, _, hrun, hstep k e.val _ _ ((hl k).2 ⟨e, hem, hk, hes⟩) hmk (left_shrinks es seen e hel) ?_ ⟨es, clock, since, seen.push e.born, clock, hb', he, hset.1, hold, hsk, hsk, fun j => ?_, rfl⟩ ?_⟩
    · refine ⟨?_, fun d hd hn => ?_, ?_, ?_, ?_⟩
      · rcases hal with rfl | rfl <;> simp [ChangeMaps.setBlock]
      · have hdr : d ≠ r := fun e' => hn (by simp [e'])
        have := hset.2 d hdr
        rcases hal with rfl | rfl <;> exact this
      · rcases hal with rfl | rfl <;> rfl
      · rcases hal with rfl | rfl <;> rfl
      · rcases hal with rfl | rfl <;> rfl
    · show (left j ∧ j ≠ k) ↔ _
      rw [hl j]
      constructor
      · rintro ⟨⟨x, hx, hxk, hxs⟩, hjk⟩
        refine ⟨x, hx, hxk, ?_⟩
        rw [contains_push, hxs, Bool.false_or]
        simp only [beq_eq_false_iff_ne]
        intro hbe
        have := he.born_inj hx hem hbe
        subst this
        rw [hk] at hxk
        cases hxk
        exact hjk rfl
      · rintro ⟨x, hx, hxk, hxs⟩
        rw [contains_push, Bool.or_eq_false_iff] at hxs
        refine ⟨⟨x, hx, hxk, hxs.1⟩, fun hjk => ?_⟩
        have hkk : x.key = e.key := by rw [hxk, hk, hjk]
        obtain ⟨p, hp⟩ := List.mem_iff_getElem?.1 hx
        obtain ⟨q, hq⟩ := List.mem_iff_getElem?.1 hem
        have e1 : (es.toList.map (·.key))[p]? = some x.key := by rw [List.getElem?_map, hp]; rfl
        have e2 : (es.toList.map (·.key))[q]? = some x.key := by rw [List.getElem?_map, hq, hkk]; rfl
        obtain rfl := nodup_at he.once e1 e2
        rw [hp] at hq
        obtain rfl := Option.some.inj hq
        have := hxs.2
        simp at this
    · have := run_entry_at (P := P) _ r b since seen es clock e hset.1 hb' hem he.born
      rw [hk] at this
      exact this

/-- 'delete(m, k)' in a loop over m. -/
theorem map_delete_in {t kt et ty : Nat} {ats : Array TypeId} {x y : TI} (hats : ats[0]? = some t) (ht : tget c.tb t = some x) (hx : x.kd = .map kt et) (hkt : tget c.tb kt = some y) (hy : y.kd = .int .i64)
    {w : World} {b r : Nat} {m : Int → Option Value} {left : Int → Prop} {cnt : Nat} (h : IR w b r m left cnt) (k : Int) (hleft : ¬ left k) {K : Value → World → Prop}
    (hK : ∀ o w' cnt', Upd w b o w' → cnt' ≤ cnt → IR w' b r (delM m k) left cnt' → K (.tuple #[]) w') : RunV c.P (Builtin.delete_ ats ty #[.map (some b), .int .i64 k]) w K := by
  have hne := h.ne
  obtain ⟨es, clock, since, seen, c0, hb, he, hr, hold, hsc, hsk, hl, rfl⟩ := h
  have hm := under_map hc ht hx
  have hq := under_int hc hkt hy
  have hck := MapKept.run_checkKey (P := c.P) (w := w) (k := .int .i64 k) hq (by simp [MapKept.IsKey]) es.isEmpty 9999
  rcases he.find .i64 k with ⟨h1, h0, h2⟩ | ⟨j, e, h1, h2, h3, h4⟩
  · have hf := MapKept.run_findKey (w := w) hq h1
    have hdel : delM m k = m := by
      funext j
      unfold delM
      split
      · rename_i hj; rw [hj, h0]
      · rfl
    refine ⟨_, { w with heap := w.heap.setIfInBounds b (.map es clock) }, ?_, hK (.map es clock) _ _ ⟨lt_of_get hb, rfl⟩ (Nat.le_refl _) ⟨es, clock, since, seen, c0, by simp [lt_of_get hb], hdel.symm ▸ he, ?_, hold, hsc, hsk, hl, rfl⟩⟩
    · simp [Builtin.delete_, hats, run_underlying hm, MapKept.run_getObj_map hb, hck, hf, MapKept.run_setObj_map _ hb, Result.andThen]
    · rw [Array.getElem?_setIfInBounds_ne (fun e => hne e.symm)]; exact hr
  · have hf := MapKept.run_findKey (w := w) hq h4
    obtain ⟨hd1, hd2⟩ := he.del h1 h2
    have hlt : j < es.size := by have := (List.getElem?_eq_some_iff.1 h1).1; simpa using this
    refine ⟨_, { w with heap := w.heap.setIfInBounds b (.map (es.eraseIdxIfInBounds j) clock) }, ?_, hK (.map (es.eraseIdxIfInBounds j) clock) _ _ ⟨lt_of_get hb, rfl⟩ ?_
      ⟨es.eraseIdxIfInBounds j, clock, since, seen, c0, by simp [lt_of_get hb], hd1, ?_, fun x hx => hold x (hd2 x hx), hsc, hsk, fun i => ?_, rfl⟩⟩
    · simp [Builtin.delete_, hats, run_underlying hm, MapKept.run_getObj_map hb, hck, hf, MapKept.run_setObj_map _ hb, Result.andThen]
    · have hl1 : (es.eraseIdxIfInBounds j).toList = es.toList.eraseIdx j := by rw [Array.eraseIdxIfInBounds, dif_pos hlt]; simp
      have e1 : (leftOf (es.eraseIdxIfInBounds j) seen).toList = (es.toList.eraseIdx j).filter (fun e => !seen.contains e.born) := by unfold leftOf; rw [Array.toList_filter, hl1]
      have e2 : (leftOf es seen).toList = es.toList.filter (fun e => !seen.contains e.born) := by unfold leftOf; rw [Array.toList_filter]
      have := ((List.eraseIdx_sublist es.toList j).filter (fun e => !seen.contains e.born)).length_le
      rw [← e1, ← e2] at this
      simpa using this
    · rw [Array.getElem?_setIfInBounds_ne (fun e => hne e.symm)]; exact hr
    · rw [hl i]
      constructor
      · rintro ⟨x, hx, hxk, hxs⟩
        refine ⟨x, ?_, hxk, hxs⟩
        have hl1 : (es.eraseIdxIfInBounds j).toList = es.toList.eraseIdx j := by rw [Array.eraseIdxIfInBounds, dif_pos hlt]; simp
        rw [hl1, List.mem_eraseIdx_iff_getElem?]
        obtain ⟨p, hp⟩ := List.mem_iff_getElem?.1 hx
        refine ⟨p, fun e' => ?_, hp⟩
        subst e'
        rw [h1] at hp
        obtain rfl := Option.some.inj hp
        exact hleft ((hl k).2 ⟨e, hx, h2, hxs⟩)
      · rintro ⟨x, hx, hxk, hxs⟩
        exact ⟨x, hd2 x hx, hxk, hxs⟩

/-- 'm[k] = v' in a loop over m, where k is there already. -/
theorem map_update_in {t kt et : Nat} {x y : TI} (ht : tget c.tb t = some x) (hx : x.kd = .map kt et) (hkt : tget c.tb kt = some y) (hy : y.kd = .int .i64)
    {w : World} {b r : Nat} {m : Int → Option Value} {left : Int → Prop} {cnt : Nat} (h : IR w b r m left cnt) (k : Int) (v : Value) (hin : m k ≠ none) {K : World → Prop}
    (hK : ∀ o w', Upd w b o w' → IR w' b r (setM m k v) left cnt → K w') : RunU c.P (Instr.mapUpdate t (.map (some b)) (.int .i64 k) v) w K := by
  have hne := h.ne
  obtain ⟨es, clock, since, seen, c0, hb, he, hr, hold, hsc, hsk, hl, rfl⟩ := h
  have hm := under_map hc ht hx
  have hq := under_int hc hkt hy
  have hck := MapKept.run_checkKey (P := c.P) (w := w) (k := .int .i64 k) hq (by simp [MapKept.IsKey]) false 9999
  rcases he.find .i64 k with ⟨h1, h0, h2⟩ | ⟨j, e, h1, h2, h3, h4⟩
  · exact absurd h0 hin
  · have hf := MapKept.run_findKey (w := w) hq h4
    have hks := MapKept.run_keyThatStays (P := c.P) (w := w) (d := .int .i64) (k := .int .i64 k) (by simp [MapKept.IsKey])
    have hej : ((es[j]?).map (·.key)).getD (.int .i64 k) = .int .i64 k := by
      rw [← Array.getElem?_toList, h1]; simp [h2]
    obtain ⟨es', hes'⟩ : ∃ es', es' = es.modify j (fun e => { e with key := .int .i64 k, val := v }) := ⟨_, rfl⟩
    have hl1 : es'.toList = es.toList.modify j (fun e => { e with key := .int .i64 k, val := v }) := by rw [hes']; simp
    have hpair : es'.toList.map (fun e => (e.key, e.born)) = es.toList.map (fun e => (e.key, e.born)) := by rw [hl1]; exact map_modify_eq _ _ _ _ e h1 (by simp [h2])
    have hborn : es'.toList.map (·.born) = es.toList.map (·.born) := by rw [hl1]; exact map_modify_eq _ _ _ _ e h1 rfl
    refine ⟨{ w with heap := w.heap.setIfInBounds b (.map es' clock) }, ?_, hK (.map es' clock) _ ⟨lt_of_get hb, rfl⟩ ⟨es', clock, since, seen, c0, by simp [lt_of_get hb], hes' ▸ he.set_old h1 h2 v, ?_, fun x hx => ?_, hsc, hsk, fun i => ?_, ?_⟩⟩
    · simp only [Instr.mapUpdate, Sem.run_bind, run_underlying hm, MapKept.run_getObj_map hb, hck, hf, Result.andThen, hej, hks, MapKept.run_setObj_map _ hb, hes']
    · rw [Array.getElem?_setIfInBounds_ne (fun e => hne e.symm)]; exact hr
    · have : x.born ∈ es.toList.map (·.born) := by rw [← hborn]; exact List.mem_map.2 ⟨x, hx, rfl⟩
      obtain ⟨z, hz, hzb⟩ := List.mem_map.1 this
      rw [← hzb]; exact hold z hz
    · rw [hl i]
      constructor
      · rintro ⟨x, hx, hxk, hxs⟩
        have : (x.key, x.born) ∈ es'.toList.map (fun e => (e.key, e.born)) := by rw [hpair]; exact List.mem_map.2 ⟨x, hx, rfl⟩
        obtain ⟨z, hz, hzb⟩ := List.mem_map.1 this
        simp only [Prod.mk.injEq] at hzb
        exact ⟨z, hz, hzb.1.trans hxk, by rw [hzb.2]; exact hxs⟩
      · rintro ⟨x, hx, hxk, hxs⟩
        have : (x.key, x.born) ∈ es.toList.map (fun e => (e.key, e.born)) := by rw [← hpair]; exact List.mem_map.2 ⟨x, hx, rfl⟩
        obtain ⟨z, hz, hzb⟩ := List.mem_map.1 this
        simp only [Prod.mk.injEq] at hzb
        exact ⟨z, hz, hzb.1.trans hxk, by rw [hzb.2]; exact hxs⟩
    · have hlen : ∀ (l : List MapEntry), (l.filter (fun e => !seen.contains e.born)).length = ((l.map (·.born)).filter (fun d => !seen.contains d)).length := by
        intro l
        rw [List.filter_map, List.length_map]
        rfl
      have e1 : (leftOf es' seen).size = (es'.toList.filter (fun e => !seen.contains e.born)).length := by unfold leftOf; rw [← Array.length_toList, Array.toList_filter]
      have e2 : (leftOf es seen).size = (es.toList.filter (fun e => !seen.contains e.born)).length := by unfold leftOf; rw [← Array.length_toList, Array.toList_filter]
      rw [e1, e2, hlen, hlen, hborn]

/-! append -/

/-- A slice in a block of its own, or nil. -/
abbrev Row (w : World) (e size : Nat) (v : Value) (n : Nat) (xs : List Value) : Prop := w.ownsRow 0 e size v n xs

omit hc in
theorem grown_tr {w w' : World} {row : Option Nat} (h : w.grownBy w' row) : Tr row.toList w w' :=
  ⟨h.size, fun b hb hn => h.block b hb (fun e => hn (by rw [← e]; simp)), h.tape, h.os, h.output⟩

omit hc in
theorem Row.tr {S : List Nat} {w w' : World} {e size n : Nat} {v : Value} {xs : List Value} (h : Row w e size v n xs) (t : Tr S w w') (hn : ∀ b, v.ownBlock = some b → b ∉ S) : Row w' e size v n xs := by
  obtain ⟨h1, h2⟩ := h
  refine ⟨h1, ?_⟩
  rcases h2 with h2 | ⟨g, cap, cur, rfl, h3, h4, h5⟩
  · exact .inl h2
  · exact .inr ⟨g, cap, cur, rfl, h3, t.get h4 (hn g rfl), h5⟩

omit hc in
theorem one_cell {v : Value} (h : one v = true) : v.oneCell' = true := by cases v <;> simp [one] at h <;> rfl

/-- append of the elements at an address. -/
theorem append_own {t e ty : Nat} {x y : TI} (ht : tget c.tb t = some x) (hx : x.kd = .slice e) (he : tget c.tb e = some y) (hsz : 0 < y.size)
    {w : World} {v : Value} {n : Nat} {xs : List Value} (h : Row w e y.size v n xs) (b o m cp : Nat) (news : List Value) (hl : news.length = m * y.size) (hnews : Cells w b o news) (h1 : news.all one = true)
    (h63 : n + m ≤ 1099511627776) (hby : y.bytes ≤ 128) {K : Value → World → Prop}
    (hK : ∀ v' w', Row w' e y.size v' (n + m) (xs ++ news) → Tr v.ownBlock.toList w w' → (v'.ownBlock = v.ownBlock ∨ v'.ownBlock = some w.heap.size) → (v' = .slice none 0 0 ↔ v = .slice none 0 0 ∧ m = 0) → K v' w') :
    RunV c.P (Builtin.append_ #[t, t] ty #[v, .slice (some ⟨b, o, none⟩) m cp]) w K := by
  obtain ⟨i, d, hi, hu, hs, hb, _, hkd, z, hz, hzl, hzz⟩ := hc.info he
  obtain ⟨i2, d2, _, hu2, _, _, _, hkd2, _⟩ := hc.info ht
  rw [kdOf_slice (hx.symm.trans hkd2)] at hu2
  have hmul : (n + m) * y.bytes ≤ 140737488355328 := by
    have := Nat.mul_le_mul h63 hby
    omega
  obtain ⟨v', w', hr, hrow, hg, hnil, hat⟩ := run_append_own_at (P := c.P) w 0 t ty e i z y.size y.bytes hu2 hi hz hs.symm hb.symm (by rw [← Array.length_toList, hzl, hzz]) hsz v n xs h ⟨b, o, none⟩ m cp news hl
    (fun j u hj => by rw [add_none]; exact hnews j u hj) (fun u hu => one_cell (List.all_eq_true.1 h1 u hu)) (by simp only [maxLen]; omega) hmul (Nat.zero_le _)
  exact ⟨v', w', hr, hK v' w' hrow (grown_tr hg) hat hnil⟩

end

end Go.E

/- The memory: its model, and how it lies in the heap. -/
namespace Go.Proofs.YtlfolinjajjgjaaDoor
open Go.E

/-! The model -/

structure Ln where
  ws : List Nat
  code : Nat
  pend : List (Nat × Nat)
  mark : Nat

structure Ln.Ok (l : Ln) : Prop where
  ws : Line8 l.ws
  code : l.code < 1024
  pend : ∀ p ∈ l.pend, p.1 < 8 ∧ p.2 < 2 ^ 40
  mark : l.mark ≤ l.pend.length

def zeros8 : List Nat := List.replicate 8 0
theorem zeros8_ok : Line8 zeros8 := ⟨rfl, by decide⟩

def lay (ws : List Nat) (ps : List (Nat × Nat)) : List Nat := ps.foldl (fun w p => w.set p.1 p.2) ws

theorem lay_ok : ∀ {ps : List (Nat × Nat)} {ws : List Nat}, Line8 ws → (∀ p ∈ ps, p.1 < 8 ∧ p.2 < 2 ^ 40) → Line8 (lay ws ps)
  | [], _, h, _ => h
  | p :: r, ws, h, hp => by
    have hp0 := hp p (by simp)
    refine lay_ok (ps := r) (ws := ws.set p.1 p.2) ⟨by simp [h.len], fun x hx => ?_⟩ (fun q hq => hp q (by simp [hq]))
    rcases List.mem_or_eq_of_mem_set hx with hx | rfl
    · exact h.word x hx
    · exact hp0.2

theorem lay_snoc (ws : List Nat) (ps : List (Nat × Nat)) (p : Nat × Nat) : lay ws (ps ++ [p]) = (lay ws ps).set p.1 p.2 := by simp [lay]

/-- What a line shows behind its first k pending stores; none: it is rotten. -/
def Ln.shows (l : Ln) (k : Nat) : Option (List Nat) := (fix l.ws l.code).map fun r => lay r.1 (l.pend.take k)

theorem Ln.Ok.shows {l : Ln} (h : l.Ok) {k : Nat} {ws : List Nat} (hs : l.shows k = some ws) : Line8 ws := by
  unfold Ln.shows at hs
  cases hf : fix l.ws l.code with
  | none => rw [hf] at hs; simp at hs
  | some r =>
    rw [hf] at hs
    simp only [Option.map_some, Option.some.injEq] at hs
    subst hs
    exact lay_ok (fix_line (vs := r.1) (c := r.2) h.ws h.code hf).1 fun p hp => h.pend p (List.mem_of_mem_take hp)

def Ln.shown (l : Ln) (k : Nat) : List Nat := (l.shows k).getD zeros8

theorem Ln.Ok.shown {l : Ln} (h : l.Ok) (k : Nat) : Line8 (l.shown k) := by
  unfold Ln.shown
  cases hs : l.shows k with
  | none => exact zeros8_ok
  | some ws => exact h.shows hs

def Ln.settle (l : Ln) (k : Nat) : Ln := if k = 0 then l else ⟨l.shown k, enc (l.shown k), l.pend.drop k, l.mark - k⟩

theorem Ln.Ok.settle {l : Ln} (h : l.Ok) (k : Nat) : (l.settle k).Ok := by
  unfold Ln.settle
  split
  · exact h
  · exact ⟨h.shown k, enc_lt _, fun p hp => h.pend p (List.mem_of_mem_drop hp), by have := h.mark; simp; omega⟩

/-- The memory. nev: how many events. -/
structure Mm where
  l : List Ln
  span : Nat
  nev : Nat

/-! Rows of equal length -/

theorem fm_get {α β : Type} {f : α → List β} {k : Nat} : ∀ {l : List α} {i : Nat} {a : α} {j : Nat} {v : β}, (∀ a ∈ l, (f a).length = k) → l[i]? = some a → (f a)[j]? = some v → (l.flatMap f)[i * k + j]? = some v
  | [], i, a, j, v, _, h, _ => by simp at h
  | x :: r, 0, a, j, v, hf, h, hv => by
    simp only [List.getElem?_cons_zero, Option.some.injEq] at h
    subst h
    rw [List.flatMap_cons, List.getElem?_append_left (by have := (List.getElem?_eq_some_iff.1 hv).1; omega)]
    simpa using hv
  | x :: r, i + 1, a, j, v, hf, h, hv => by
    have hx := hf x (by simp)
    rw [List.flatMap_cons, List.getElem?_append_right (by rw [hx, Nat.add_mul]; omega)]
    have := fm_get (l := r) (i := i) (fun a ha => hf a (by simp [ha])) (by simpa using h) hv
    rw [hx, show (i + 1) * k + j - k = i * k + j by rw [Nat.add_mul]; omega]
    exact this

theorem fm_len {α β : Type} {f : α → List β} {k : Nat} : ∀ {l : List α}, (∀ a ∈ l, (f a).length = k) → (l.flatMap f).length = l.length * k
  | [], _ => by simp
  | x :: r, hf => by
    rw [List.flatMap_cons, List.length_append, hf x (by simp), fm_len (fun a ha => hf a (by simp [ha])), List.length_cons, Nat.add_mul]
    omega

theorem fm_splice {α β : Type} {f : α → List β} {k o n : Nat} {vs : List β} (sp : List β → Nat → Nat → List β → List β) (hsp : sp = fun l o n vs => l.take o ++ (vs ++ l.drop (o + n))) :
    ∀ {l : List α} {i : Nat} {a a' : α}, (∀ a ∈ l, (f a).length = k) → l[i]? = some a → o + n ≤ k → f a' = sp (f a) o n vs → sp (l.flatMap f) (i * k + o) n vs = (l.set i a').flatMap f := by
  subst hsp
  intro l
  induction l with
  | nil => intro i a a' _ h; simp at h
  | cons x r ih =>
    intro i a a' hf h ho ha
    have hx := hf x (by simp)
    cases i with
    | zero =>
      simp only [List.getElem?_cons_zero, Option.some.injEq] at h
      subst h
      simp only [Nat.zero_mul, Nat.zero_add, List.flatMap_cons, List.set_cons_zero, ha]
      rw [List.take_append_of_le_length (by omega), List.drop_append_of_le_length (by omega)]
      simp
    | succ i =>
      have := ih (i := i) (a := a) (a' := a') (fun a ha => hf a (by simp [ha])) (by simpa using h) ho ha
      simp only [List.set_cons_succ, List.flatMap_cons, ← this]
      have e1 : (i + 1) * k + o = (f x).length + (i * k + o) := by rw [hx, Nat.add_mul]; omega
      have e2 : (i + 1) * k + o + n = (f x).length + (i * k + o + n) := by omega
      rw [e2, e1, List.take_length_add_append, List.drop_length_add_append]
      simp

/-! The heap -/

def pcells (ps : List (Nat × Nat)) : List Value := ps.flatMap fun p => [.int .i64 (p.1 : Nat), .int .i64 (p.2 : Nat)]

theorem pcells_len (ps : List (Nat × Nat)) : (pcells ps).length = ps.length * 2 := fm_len (fun _ _ => rfl)
theorem pcells_one (ps : List (Nat × Nat)) : (pcells ps).all E.one = true := by
  rw [List.all_eq_true]
  intro x hx
  simp only [pcells, List.mem_flatMap, List.mem_cons, List.not_mem_nil, or_false] at hx
  obtain ⟨p, _, rfl | rfl⟩ := hx <;> rfl

def lcells (r : Ln × Value) : List Value := wcells r.1.ws ++ [.int .i64 (r.1.code : Nat), r.2, .int .i64 (r.1.mark : Nat)]

theorem lcells_len {r : Ln × Value} (h : r.1.Ok) : (lcells r).length = 11 := by simp [lcells, wcells_len h.ws]

theorem get_tail {l t : List Value} (n : Nat) (h : l.length = n) (j : Nat) : (l ++ t)[n + j]? = t[j]? := by
  rw [← h, List.getElem?_append_right (by omega)]; simp

theorem lcells_code {r : Ln × Value} (h : r.1.Ok) : (lcells r)[8]? = some (.int .i64 (r.1.code : Nat)) := get_tail 8 (wcells_len h.ws) 0
theorem lcells_pend {r : Ln × Value} (h : r.1.Ok) : (lcells r)[9]? = some r.2 := get_tail 8 (wcells_len h.ws) 1
theorem lcells_mark {r : Ln × Value} (h : r.1.Ok) : (lcells r)[10]? = some (.int .i64 (r.1.mark : Nat)) := get_tail 8 (wcells_len h.ws) 2

def busyM (rows : List (Ln × Value)) : Int → Option Value
  | .ofNat n => match rows[n]? with
    | some r => if r.1.pend = [] then none else some (.bool true)
    | none => none
  | _ => none

def foot (p bl bm : Nat) (rows : List (Ln × Value)) (evv : Value) : List Nat := p :: bl :: bm :: (evv.ownBlock.toList ++ rows.flatMap fun r => r.2.ownBlock.toList)

/-- The memory lies at block p; of its map of the busy lines nothing is said. -/
structure MemX (w : World) (p bl bm : Nat) (rows : List (Ln × Value)) (evv : Value) (span nev : Nat) : Prop where
  head : Blk w p [.slice (some ⟨bl, 0, none⟩) rows.length rows.length, .map (some bm), .int .i64 (span : Nat), evv] 73
  lines : Blk w bl (rows.flatMap lcells) 69
  pend : ∀ r ∈ rows, Row w 89 2 r.2 r.1.pend.length (pcells r.1.pend)
  evs : ∃ xs, Row w 142 12 evv nev xs
  ok : ∀ r ∈ rows, r.1.Ok
  nodup : (foot p bl bm rows evv).Nodup
  ge : ∀ b ∈ foot p bl bm rows evv, 3 ≤ b
  small : rows.length ≤ 4096
  bmlt : bm < w.heap.size

/-- The memory M lies at block p; F: its blocks. -/
def Mem (w : World) (p : Nat) (M : Mm) (F : List Nat) : Prop := ∃ bl bm rows evv, MemX w p bl bm rows evv M.span M.nev ∧ IM w bm (busyM rows) ∧ M.l = rows.map (·.1) ∧ F = foot p bl bm rows evv

/-- From w to w': the blocks of F may have changed; F' are blocks of F, or new ones. -/
structure Step (w w' : World) (F F' : List Nat) : Prop where
  tr : Tr F w w'
  sub : ∀ b ∈ F', b ∈ F ∨ w.heap.size ≤ b

theorem Step.refl (w : World) (F : List Nat) : Step w w F F := ⟨Tr.refl _ _, fun _ h => .inl h⟩
theorem Step.trans {w w1 w2 : World} {F F1 F2 : List Nat} (h : Step w w1 F F1) (h' : Step w1 w2 F1 F2) : Step w w2 F F2 :=
  ⟨h.tr.trans h'.tr (fun _ h => h) (fun b hb hlt => (h.sub b hb).resolve_right (by omega)), fun b hb => by
    rcases h'.sub b hb with hb | hb
    · exact h.sub b hb
    · exact .inr (Nat.le_trans h.tr.size hb)⟩
theorem Step.ext {w w1 w2 : World} {F F1 : List Nat} (h : Step w w1 F F1) (t : Tr [] w1 w2) : Step w w2 F F1 :=
  ⟨h.tr.trans t (fun _ h => h) (fun _ h _ => by cases h), h.sub⟩
theorem Step.of_ext {w w1 w2 : World} {F F1 : List Nat} (t : Tr [] w w1) (h : Step w1 w2 F F1) : Step w w2 F F1 :=
  ⟨t.trans h.tr (fun _ h => by cases h) (fun _ h _ => h), fun b hb => (h.sub b hb).imp_right (Nat.le_trans t.size)⟩

theorem Row.lt {w : World} {e size n : Nat} {v : Value} {xs : List Value} (h : Row w e size v n xs) {b : Nat} (hb : v.ownBlock = some b) : b < w.heap.size := by
  obtain ⟨_, h2 | ⟨g, cap, cur, rfl, _, h4, _⟩⟩ := h
  · rw [h2.1] at hb; simp [Value.ownBlock] at hb
  · simp only [Value.ownBlock, Option.some.injEq] at hb
    subst hb
    exact lt_of_get h4

namespace MemX
variable {w : World} {p bl bm : Nat} {rows : List (Ln × Value)} {evv : Value} {span nev : Nat}

theorem lens (h : MemX w p bl bm rows evv span nev) : ∀ r ∈ rows, (lcells r).length = 11 := fun r hr => lcells_len (h.ok r hr)

theorem tr (h : MemX w p bl bm rows evv span nev) {S : List Nat} {w' : World} (t : Tr S w w') (hS : ∀ b ∈ S, b ∉ foot p bl bm rows evv) : MemX w' p bl bm rows evv span nev := by
  have hin : ∀ b ∈ foot p bl bm rows evv, b ∉ S := fun b hb hs => hS b hs hb
  obtain ⟨xs, hxs⟩ := h.evs
  refine ⟨h.head.tr t (hin _ (by simp [foot])), h.lines.tr t (hin _ (by simp [foot])), fun r hr => Row.tr (h.pend r hr) t fun b hb => hin _ ?_, ⟨xs, Row.tr hxs t fun b hb => hin _ ?_⟩, h.ok, h.nodup, h.ge, h.small, Nat.lt_of_lt_of_le h.bmlt t.size⟩
  · simp only [foot, List.mem_cons, List.mem_append, List.mem_flatMap]
    exact .inr (.inr (.inr (.inr ⟨r, hr, by simp [hb]⟩)))
  · simp [foot, hb]

theorem ext (h : MemX w p bl bm rows evv span nev) {w' : World} (t : Tr [] w w') : MemX w' p bl bm rows evv span nev := h.tr t (by simp)

theorem foot_lt (h : MemX w p bl bm rows evv span nev) : ∀ b ∈ foot p bl bm rows evv, b < w.heap.size := by
  intro b hb
  simp only [foot, List.mem_cons, List.mem_append, List.mem_flatMap, Option.mem_toList] at hb
  rcases hb with rfl | rfl | rfl | hb | ⟨r, hr, hb⟩
  · exact h.head.lt
  · exact h.lines.lt
  · exact h.bmlt
  · obtain ⟨xs, hxs⟩ := h.evs
    exact Row.lt hxs hb
  · exact Row.lt (h.pend r hr) hb

theorem cell (h : MemX w p bl bm rows evv span nev) {i : Nat} {r : Ln × Value} (hr : rows[i]? = some r) {j : Nat} {v : Value} (hv : (lcells r)[j]? = some v) : w.cell? ⟨bl, i * 11 + j, none⟩ = some v :=
  h.lines.cell (fm_get h.lens hr hv)

/-- The words of a line. -/
theorem words (h : MemX w p bl bm rows evv span nev) {i : Nat} {r : Ln × Value} (hr : rows[i]? = some r) : Cells w bl (0 + i * 11 + 0 + 0) (wcells r.1.ws) := fun j v hv => by
  rw [show 0 + i * 11 + 0 + 0 + j = i * 11 + j by omega]
  refine h.cell hr ?_
  unfold lcells
  rw [List.getElem?_append_left (List.getElem?_eq_some_iff.1 hv).1]
  exact hv

/-- Words and code. -/
theorem line (h : MemX w p bl bm rows evv span nev) {i : Nat} {r : Ln × Value} (hr : rows[i]? = some r) : Cells w bl (0 + i * 11 + 0) (wcells r.1.ws ++ [.int .i64 (r.1.code : Nat)]) := fun j v hv => by
  rw [show 0 + i * 11 + 0 + j = i * 11 + j by omega]
  refine h.cell hr ?_
  have : lcells r = (wcells r.1.ws ++ [.int .i64 (r.1.code : Nat)]) ++ [r.2, .int .i64 (r.1.mark : Nat)] := by simp [lcells]
  rw [this, List.getElem?_append_left (List.getElem?_eq_some_iff.1 hv).1]
  exact hv

theorem code (h : MemX w p bl bm rows evv span nev) {i : Nat} {r : Ln × Value} (hr : rows[i]? = some r) : w.cell? ⟨bl, 0 + i * 11 + 0 + 8, none⟩ = some (.int .i64 (r.1.code : Nat)) := by
  rw [show 0 + i * 11 + 0 + 8 = i * 11 + 8 by omega]
  exact h.cell hr (lcells_code (h.ok r (List.mem_of_getElem? hr)))

theorem pcell (h : MemX w p bl bm rows evv span nev) {i : Nat} {r : Ln × Value} (hr : rows[i]? = some r) : w.cell? ⟨bl, 0 + i * 11 + 9, none⟩ = some r.2 := by
  rw [show 0 + i * 11 + 9 = i * 11 + 9 by omega]
  exact h.cell hr (lcells_pend (h.ok r (List.mem_of_getElem? hr)))

theorem mark (h : MemX w p bl bm rows evv span nev) {i : Nat} {r : Ln × Value} (hr : rows[i]? = some r) : w.cell? ⟨bl, 0 + i * 11 + 10, none⟩ = some (.int .i64 (r.1.mark : Nat)) := by
  rw [show 0 + i * 11 + 10 = i * 11 + 10 by omega]
  exact h.cell hr (lcells_mark (h.ok r (List.mem_of_getElem? hr)))

end MemX

end Go.Proofs.YtlfolinjajjgjaaDoor

/- The calculus E, part K: a cut. -/
namespace Go.E

/-- What stands behind a piece of code is said once, for a frame of which less is known. -/
theorem cut_rule {c : Cx} {r : Option Nat} {N : Nat} {code : Code} {Q : PostX} {e : Env} {ds : List Deferred} {w : World} {α : Type} (E : α → Env) (I : α → World → Prop)
    (h1 : G c r N code (fun ex => match ex with
      | .normal => fun e' ds' w' => ds' = ds ∧ ∃ x, Sub e' (E x) ∧ I x w'
      | ex => Q ex) e ds w)
    (h2 : ∀ x w', I x w' → Q .normal (E x) ds w') : G c r N code Q e ds w := by
  refine ⟨fun a hag hd => wpIn_mono (h1.run a hag hd) fun ex a' w' h => ?_⟩
  cases ex with
  | normal =>
    obtain ⟨e', ds', hag', hd', rfl, x, hsub, hI⟩ := h
    exact ⟨E x, _, hag'.sub hsub, hd', h2 x w' hI⟩
  | _ => exact h

/-- Two ways that go on by the same code: 'refine join (e0 := ..) (fun key => ⟨fun h => G.sub ?_ key, fun h => G.sub ?_ key⟩) ?_'. -/
theorem join {c : Cx} {r : Option Nat} {N : Nat} {code : Code} {Q : PostX} {e0 : Env} {ds : List Deferred} {w : World} {Goal : Prop} (h1 : G c r N code Q e0 ds w → Goal) (h2 : G c r N code Q e0 ds w) : Goal := h1 h2

end Go.E

/- Contracts of the memory's functions that only read. -/
namespace Go.Proofs.YtlfolinjajjgjaaDoor
open Go.E

section
variable {w : World} {p bl bm : Nat} {rows : List (Ln × Value)} {evv : Value} {span nev : Nat}

theorem has_calls (h : MemX w p bl bm rows evv span nev) (n : Int) :
    Calls cx.P 38 #[.pointer (some ⟨p, 0, none⟩), .int .i64 n] w (Ret fun v w' => v = .bool (decide (0 ≤ n ∧ n < rows.length)) ∧ w = w') := by
  refine calls_body cx_ok (args := [.pointer (some ⟨p, 0, none⟩), .int .i64 n]) Tryd.func38 rfl 16 rfl rfl [.tmp 4] rfl ?_
  refine ⟨fun h0 => ?_, fun h0 => ?_⟩
  · refine ⟨_, h.head.cell rfl, fun h1 => ?_, fun h1 => ?_⟩
    · exact ⟨by simp [h0, h1], rfl⟩
    · exact ⟨by simp [h1], rfl⟩
  · exact ⟨by simp [h0], rfl⟩

theorem word_calls (x : Int) (w : World) : Calls cx.P 63 #[.int .i64 x] w (Ret fun v w' => v = .bool (decide (0 ≤ x ∧ x ≤ 1099511627775)) ∧ w = w') := by
  refine calls_body cx_ok (args := [.int .i64 x]) Tryd.func63 rfl 9 rfl rfl [.tmp 2] rfl ?_
  refine ⟨fun h0 => ⟨fun h1 => ?_, fun h1 => ?_⟩, fun h0 => ?_⟩
  · exact ⟨by simp [h0, h1], rfl⟩
  · exact ⟨by simp [h1], rfl⟩
  · exact ⟨by simp [h0], rfl⟩

theorem MemX.gl (h : MemX w p bl bm rows evv span nev) (hg : Gl w) {S : List Nat} {w' : World} (t : Tr S w w') (hS : ∀ b ∈ S, b ∈ foot p bl bm rows evv) : Gl w' := hg.tr t fun b hb => h.ge b (hS b hb)

theorem State_calls (h : MemX w p bl bm rows evv span nev) (hg : Gl w) (i : Nat) {r : Ln × Value} (hr : rows[i]? = some r) :
    Calls cx.P 96 #[.pointer (some ⟨p, 0, none⟩), .int .i64 i] w (Ret fun v w' => v = .int .i64 ((chk r.1.ws r.1.code).state : Nat) ∧ Tr [] w w') := by
  have hi : i < rows.length := (List.getElem?_eq_some_iff.1 hr).1
  have hok := h.ok r (List.mem_of_getElem? hr)
  refine calls_body cx_ok (args := [.pointer (some ⟨p, 0, none⟩), .int .i64 i]) Tryd.func96 rfl 36 rfl rfl [.tmp 4] rfl ?_
  refine call (has_calls h i) ?_
  rintro v _ ⟨hv, rfl⟩
  rw [decide_eq_true (by omega)] at hv
  subst hv
  refine draw_rule cx_ok [] (Plan.takes [0, 1, 2, 3, 4, 5, 6, 7, 8, 9, 10, 11, 12, 13, 14, 15, 16, 17] (.one true 18 (Plan.takes [19, 20, 21, 22, 23, 24, 25] .done))) (by kernel_rfl) ?_
  intro w1 d
  refine ⟨_, fun w' t => t.cell (h.head.cell rfl) (by simp), i, rfl, hi, ?_⟩
  refine ⟨_, fun w' t => (h.words hr).tr t (by simp), wcells_len hok.ws, _, fun w' t => t.cell (h.head.cell rfl) (by simp), i, rfl, hi, _, fun w' t => t.cell (h.code hr) (by simp), ?_⟩
  refine ⟨?_, trivial⟩
  refine call (Check_calls r.1.ws hok.ws r.1.code hok.code w1 (hg.ext d.tr)) ?_
  rintro _ w2 ⟨rfl, t2⟩
  exact ⟨d.tr.ext t2, rfl, d.tr.ext t2⟩

def optCells : Option (List Nat) → List Value
  | some ws => wcells ws
  | none => wcells zeros8
def optErr : Option (List Nat) → Int
  | some _ => 0
  | none => 9

theorem pcells_get {ps : List (Nat × Nat)} {j : Nat} {q : Nat × Nat} (h : ps[j]? = some q) : (pcells ps)[j * 2]? = some (.int .i64 (q.1 : Nat)) ∧ (pcells ps)[j * 2 + 1]? = some (.int .i64 (q.2 : Nat)) := by
  have h0 := fm_get (f := fun p : Nat × Nat => [Value.int .i64 (p.1 : Nat), .int .i64 (p.2 : Nat)]) (k := 2) (j := 0) (fun _ _ => rfl) h rfl
  have h1 := fm_get (f := fun p : Nat × Nat => [Value.int .i64 (p.1 : Nat), .int .i64 (p.2 : Nat)]) (k := 2) (j := 1) (fun _ _ => rfl) h rfl
  exact ⟨h0, h1⟩

/-- The elements of a row. -/
theorem Row.elem {e size n : Nat} {v : Value} {xs : List Value} (h : Row w e size v n xs) : (v = .slice none 0 0 ∧ n = 0) ∨ ∃ g cap, v = .slice (some ⟨g, 0, none⟩) n cap ∧ n ≤ cap ∧ cap ≤ maxLen ∧ Cells w g 0 xs := by
  obtain ⟨h1, h2 | ⟨g, cap, cur, rfl, h3, h4, h5, h6, h7, h8⟩⟩ := h
  · exact .inl h2
  · refine .inr ⟨g, cap, rfl, h5, h6, fun i v hv => ?_⟩
    have hb : Blk w g cur.toList e := by unfold Blk; simpa using h4
    rw [Nat.zero_add]
    refine hb.cell ?_
    rw [← h8, List.getElem?_take] at hv
    split at hv
    · exact hv
    · cases hv

theorem Upd.whole {w w' : World} {b T n : Nat} {l vs : List Value} (u : Upd w b (.cells (splice l 0 n vs).toArray T) w') (hl : l.length = n) (hv : vs.length = n) : Blk w' b vs T := by
  have := u.blk
  rwa [splice_all hl hv] at this

def fixW : Option (List Nat × Nat) → List Nat
  | some q => q.1
  | none => zeros8
def fixC : Option (List Nat × Nat) → Nat
  | some q => q.2
  | none => 0
def fixE : Option (List Nat × Nat) → Int
  | some _ => 0
  | none => 9
theorem fixVal_eq (o : Option (List Nat × Nat)) : fixVal o = .tuple #[.agg (wcells (fixW o)).toArray, .int .i64 (fixC o : Nat), .int .i64 (fixE o)] := by
  rcases o with _ | ⟨a, b⟩ <;> rfl

theorem sadr_zero (g sz cap : Nat) : sadr g 0 0 sz cap = ⟨g, 0, none⟩ := by unfold sadr; split <;> simp

theorem wcells_zeros : wcells zeros8 = List.replicate 8 (.int .i64 0) := rfl

set_option maxHeartbeats 1000000 in
theorem shows_calls (h : MemX w p bl bm rows evv span nev) (hg : Gl w) (i k : Nat) {r : Ln × Value} (hr : rows[i]? = some r) (hk : k ≤ r.1.pend.length) :
    Calls cx.P 59 #[.pointer (some ⟨bl, 0 + i * 11, none⟩), .int .i64 k] w (Ret fun v w' => v = .tuple #[.agg (optCells (r.1.shows k)).toArray, .int .i64 (optErr (r.1.shows k))] ∧ Tr [] w w') := by
  have hok := h.ok r (List.mem_of_getElem? hr)
  have hrow := h.pend r (List.mem_of_getElem? hr)
  have hw8 : Line8 (fixW (fix r.1.ws r.1.code)) := by
    cases hf : fix r.1.ws r.1.code with
    | none => exact zeros8_ok
    | some q => exact (fix_line (vs := q.1) (c := q.2) hok.ws hok.code hf).1
  have hlw := wcells_len hw8
  refine calls_body cx_ok (args := [.pointer (some ⟨bl, 0 + i * 11, none⟩), .int .i64 k]) Tryd.func59 rfl 48 rfl rfl [.cell 4 46, .tmp 5] rfl ?_
  intro b4 w1 n1
  have e1 := n1.num; have z1 := n1.size
  have B4 : Blk w1 b4 (wcells zeros8) 46 := n1.blk
  refine cut_rule (α := Nat) (fun b6 => [(0, .pointer (some ⟨bl, 0 + i * 11, none⟩)), (1, .int .i64 k), (4, .pointer (some ⟨b4, 0, none⟩)), (6, .pointer (some ⟨b6, 0, none⟩)), (8, .int .i64 (fixE (fix r.1.ws r.1.code)))])
    (fun b6 W => Tr [] w1 W ∧ Blk W b6 (wcells (fixW (fix r.1.ws r.1.code))) 46 ∧ w1.heap.size ≤ b6) ?_ ?_
  · refine draw_rule cx_ok [] (Plan.takes [0, 1, 2, 3, 4, 5, 6, 7, 8, 9] (.alt true 10 (Plan.takes [11, 12, 13, 14] (.one true 15 (.one true 16 (Plan.takes [17, 18] .done))))
      (.alt true 15 (.one true 10 (Plan.takes [11, 12, 13, 14] (.one true 16 (Plan.takes [17, 18] .done)))) .stop))) (by kernel_rfl) ?_
    intro w2 d
    have zd := d.tr.size
    refine ⟨_, fun w' t => (h.words hr).tr (n1.tr.ext t) (by simp), wcells_len hok.ws, _, fun w' t => (n1.tr.ext t).cell (h.code hr) (by simp), ?_⟩
    refine ⟨?_, ?_, trivial⟩
    · refine call (Fix_calls r.1.ws hok.ws r.1.code hok.code w2 ((hg.ext n1.tr).ext d.tr)) ?_
      rintro v w3 ⟨hv, t3⟩
      rw [fixVal_eq] at hv
      subst hv
      refine ⟨d.tr.ext t3, ?_⟩
      refine ⟨?_, trivial⟩
      intro b6 w4 n6
      have e6 := n6.num; have z3 := t3.size; have z6 := n6.size
      refine ⟨(d.tr.ext t3).ext n6.tr, ?_⟩
      refine ⟨⟨_, _, n6.blk, hlw, by show 0 + 8 ≤ 8; decide, wcells_one _, fun w5 u5 => ?_⟩, trivial⟩
      have t5 := u5.ext ((d.tr.ext t3).ext n6.tr) (by omega)
      have B6 : Blk w5 b6 (wcells (fixW (fix r.1.ws r.1.code))) 46 := Upd.whole u5 rfl hlw
      exact ⟨t5, rfl, b6, ⟨rfl, rfl, rfl, rfl, rfl, trivial⟩, t5, B6, by omega⟩
    · intro b6 w3 n6
      have e6 := n6.num; have z6 := n6.size
      refine ⟨d.tr.ext n6.tr, ?_⟩
      refine ⟨?_, trivial⟩
      refine call (Fix_calls r.1.ws hok.ws r.1.code hok.code w3 (((hg.ext n1.tr).ext d.tr).ext n6.tr)) ?_
      rintro v w4 ⟨hv, t4⟩
      rw [fixVal_eq] at hv
      subst hv
      refine ⟨(d.tr.ext n6.tr).ext t4, ?_⟩
      refine ⟨⟨_, _, n6.blk.ext t4, hlw, by show 0 + 8 ≤ 8; decide, wcells_one _, fun w5 u5 => ?_⟩, trivial⟩
      have t5 := u5.ext ((d.tr.ext n6.tr).ext t4) (by omega)
      have B6 : Blk w5 b6 (wcells (fixW (fix r.1.ws r.1.code))) 46 := Upd.whole u5 rfl hlw
      exact ⟨t5, rfl, b6, ⟨rfl, rfl, rfl, rfl, rfl, trivial⟩, t5, B6, by omega⟩
  rintro b6 w2 ⟨t2, B6, hb6⟩
  have z2 := t2.size
  have C4 := B4.ext t2
  have tw2 := n1.tr.ext t2
  cases hf : fix r.1.ws r.1.code with
  | none =>
    have hsh : r.1.shows k = none := by unfold Ln.shows; rw [hf]; rfl
    rw [hsh]
    refine ⟨fun h => absurd h (by show ¬ ((9 : Int) = 0); decide), fun _ => ?_⟩
    refine ⟨_, rfl, _, _, C4, rfl, by show 0 + 8 ≤ 8; decide, rfl, fun w5 u5 => ⟨_, u5.blk.all, rfl, rfl, u5.ext tw2 (by omega)⟩⟩
  | some q =>
    have hsh : r.1.shows k = some (lay q.1 (r.1.pend.take k)) := by unfold Ln.shows; rw [hf]; rfl
    rw [hf] at B6 hw8
    rw [hsh]
    refine ⟨fun _ => ?_, fun h => absurd rfl h⟩
    have hpc := h.ext tw2 |>.pcell hr
    -- the end
    have fin : ∀ W : World, Tr [] w W → Tr [b6] w2 W → Blk W b6 (wcells (lay q.1 (r.1.pend.take k))) 46 →
        ∃ cs, Cells W b6 0 cs ∧ cs.length = 8 ∧ (StN W b4 0 8 cs.toArray.toList fun W' => ∃ cs2, Cells W' b4 0 cs2 ∧ cs2.length = 8 ∧
          (pack [.agg cs2.toArray, .int .i64 0] = .tuple #[.agg (optCells (some (lay q.1 (r.1.pend.take k)))).toArray, .int .i64 (optErr (some (lay q.1 (r.1.pend.take k))))] ∧ Tr [] w W')) := by
      intro W tW tW2 BW
      have hl8 : Line8 (lay q.1 (r.1.pend.take k)) := lay_ok hw8 fun p hp => hok.pend p (List.mem_of_mem_take hp)
      exact ⟨_, BW.all, wcells_len hl8, _, _, C4.tr tW2 (by simp; omega), wcells_len hl8, by show 0 + 8 ≤ 8; decide, wcells_one _, fun w5 u5 => ⟨_, (Upd.whole u5 rfl (wcells_len hl8)).all, wcells_len hl8, rfl, u5.ext tW (by omega)⟩⟩
    rcases Row.elem hrow with ⟨hv, hn⟩ | ⟨g, cap, hv, hn, hm, hcs⟩
    · obtain rfl : k = 0 := by omega
      rw [hv] at hpc
      refine ⟨_, hpc, 0, 0, rfl, rfl, by omega, by omega, ?_⟩
      refine loop_rule cx_ok (fun (_ : Unit) W => w2 = W) (fun _ => [(4, .pointer (some ⟨b4, 0, none⟩)), (6, .pointer (some ⟨b6, 0, none⟩)), (36, .int .i64 0), (37, .int .i64 0)]) (fun _ => 0) () ⟨rfl, rfl, rfl, rfl, trivial⟩ rfl ?_
      rintro _ _ rfl
      refine ⟨fun h => absurd h (by decide), fun _ => ?_⟩
      exact fin w2 tw2 (Tr.refl _ _) (by simpa [lay, fixW] using B6)
    rw [hv] at hpc
    refine ⟨_, hpc, 0, k, rfl, rfl, by omega, by omega, ?_⟩
    rw [sadr_zero]
    have hk63 : k ≤ 9223372036854775807 := by simp only [maxLen] at hm; omega
    refine loop_rule cx_ok (fun j W => j ≤ k ∧ Tr [] w W ∧ Tr [b6] w2 W ∧ Blk W b6 (wcells (lay q.1 (r.1.pend.take j))) 46)
      (fun j : Nat => [(4, .pointer (some ⟨b4, 0, none⟩)), (6, .pointer (some ⟨b6, 0, none⟩)), (35, .slice (some ⟨g, 0, none⟩) (k - 0) (cap - 0)), (36, .int .i64 k), (37, .int .i64 j)]) (fun j => k - j) 0 ⟨rfl, rfl, rfl, rfl, rfl, trivial⟩ ⟨by omega, tw2, Tr.refl _ _, by simpa [lay, fixW] using B6⟩ ?_
    rintro j W ⟨hj, tW, tW2, BW⟩
    have zW := tW2.size
    refine ⟨fun hlt => ?_, fun hge => ?_⟩
    · have hjk : j < k := by omega
      have hjp : j < r.1.pend.length := by omega
      have hq : r.1.pend[j]? = some r.1.pend[j] := List.getElem?_eq_getElem hjp
      obtain ⟨hc0, hc1⟩ := pcells_get hq
      have hqok := hok.pend _ (List.mem_of_getElem? hq)
      refine ⟨j, rfl, (by show j < k - 0; omega), [.int .i64 (r.1.pend[j].1 : Nat), .int .i64 (r.1.pend[j].2 : Nat)], ?_, rfl, ?_⟩
      · intro x v hx
        refine tW.cell ?_ (by simp)
        rcases x with _ | _ | x
        · simp only [List.getElem?_cons_zero, Option.some.injEq] at hx
          subst hx
          have := hcs _ _ hc0
          rw [Nat.zero_add] at this
          rw [show 0 + j * 2 + 0 = j * 2 by omega]; exact this
        · simp only [Nat.zero_add, List.getElem?_cons_succ, List.getElem?_cons_zero, Option.some.injEq] at hx
          subst hx
          have := hcs _ _ hc1
          rw [Nat.zero_add] at this
          rw [show 0 + j * 2 + (0 + 1) = j * 2 + 1 by omega]; exact this
        · simp at hx
      intro b10 w3 n10
      have e10 := n10.num; have z10 := n10.size
      refine ⟨_, _, n10.blk, rfl, by show 0 + 2 ≤ 2; decide, rfl, fun w4 u4 => ?_⟩
      have z4 := u4.size
      have B10 := u4.blk
      refine ⟨_, B10.cell rfl, _, B10.cell rfl, r.1.pend[j].1, rfl, hqok.1, ?_⟩
      have BW4 := (BW.ext n10.tr).tr u4.tr (by simp; have := BW.lt; omega)
      have hl8 : Line8 (lay q.1 (r.1.pend.take j)) := lay_ok hw8 fun p hp => hok.pend p (List.mem_of_mem_take hp)
      refine ⟨_, _, BW4, by rw [wcells_len hl8]; show 0 + r.1.pend[j].1 * 1 < 8; omega, rfl, fun w5 u5 => ?_⟩
      refine ⟨((j + 1 : Nat) : Int), by rw [w64 (by omega)]; omega, ?_⟩
      have t4 : Tr [] W w4 := u4.ext n10.tr (by omega)
      refine ⟨rfl, j + 1, ⟨rfl, rfl, rfl, rfl, rfl, trivial⟩, ⟨by omega, ?_, ?_, ?_⟩, by omega⟩
      · exact u5.ext (tW.ext t4) (by omega)
      · exact (tW2.trans t4 (fun _ h => h) (fun _ h _ => by cases h)).trans u5.tr (fun _ h => h) (fun _ h _ => h)
      · have := u5.blk
        rw [show 0 + r.1.pend[j].1 * 1 = r.1.pend[j].1 by omega, ← wcells_set, ← lay_snoc] at this
        rw [List.take_succ_eq_append_getElem hjp]
        exact this
    · obtain rfl : j = k := by omega
      exact fin W tW tW2 BW

theorem Row.slice {e size n : Nat} {v : Value} {xs : List Value} (h : Row w e size v n xs) : ∃ a c, v = .slice a n c := by
  rcases Row.elem h with ⟨rfl, rfl⟩ | ⟨g, cap, rfl, _⟩
  · exact ⟨_, _, rfl⟩
  · exact ⟨_, _, rfl⟩

/-- What Load returns of a word that there is. -/
def loadV (o : Option (List Nat)) (j : Nat) : Value :=
  match o with
  | some ws => .tuple #[.int .i64 (ws.getD j 0 : Nat), .int .i64 0]
  | none => .tuple #[.int .i64 0, .int .i64 9]

theorem Load_calls (h : MemX w p bl bm rows evv span nev) (hg : Gl w) (i j : Nat) (hj : j < 8) {r : Ln × Value} (hr : rows[i]? = some r) :
    Calls cx.P 58 #[.pointer (some ⟨p, 0, none⟩), .int .i64 (8 * i + j : Nat)] w (Ret fun v w' => v = loadV (r.1.shows r.1.pend.length) j ∧ Tr [] w w') := by
  have hi : i < rows.length := (List.getElem?_eq_some_iff.1 hr).1
  have hsm := h.small
  have hok := h.ok r (List.mem_of_getElem? hr)
  have hrow := h.pend r (List.mem_of_getElem? hr)
  obtain ⟨a, c, hv⟩ := Row.slice hrow
  have hpc := h.pcell hr
  rw [hv] at hpc
  have hdiv : IntKind.i64.wrap (((8 * i + j : Nat) : Int).tdiv 8) = (i : Int) := by rw [IntWalk.i64_quo _ _ (by omega)]; omega
  refine calls_body cx_ok (args := [.pointer (some ⟨p, 0, none⟩), .int .i64 (8 * i + j : Nat)]) Tryd.func58 rfl 41 rfl rfl [.tmp 4, .tmp 5] rfl ?_
  refine ⟨fun h0 => absurd h0 (by omega), fun _ => ?_⟩
  refine ⟨_, by decide, hdiv, ?_⟩
  refine call (has_calls h i) ?_
  rintro v _ ⟨hv', rfl⟩
  rw [decide_eq_true (by omega)] at hv'
  subst hv'
  refine ⟨_, h.head.cell rfl, _, by decide, hdiv, i, rfl, hi, _, hpc, ?_⟩
  refine call (shows_calls h hg i r.1.pend.length hr (Nat.le_refl _)) ?_
  rintro _ w1 ⟨rfl, t1⟩
  intro b7 w2 n7
  have e7 := n7.num; have z7 := n7.size; have z1 := t1.size
  obtain ⟨o, ho⟩ : ∃ o, o = r.1.shows r.1.pend.length := ⟨_, rfl⟩
  rw [← ho]
  have hlen : (optCells o).length = 8 := by
    rcases o with _ | ws
    · rfl
    · exact wcells_len (hok.shows ho.symm)
  have hone : (optCells o).all E.one = true := by
    rcases o with _ | ws
    · rfl
    · exact wcells_one _
  refine ⟨_, _, n7.blk, hlen, by show 0 + 8 ≤ 8; decide, hone, fun w3 u3 => ?_⟩
  have B7 : Blk w3 b7 (optCells o) 46 := Upd.whole u3 rfl hlen
  have t3 := u3.ext (t1.ext n7.tr) (by omega)
  rcases o with _ | ws
  · refine ⟨fun h0 => absurd h0 (by show ¬ ((9 : Int) = 0); decide), fun _ => ?_⟩
    exact ⟨rfl, t3⟩
  · refine ⟨fun _ => ?_, fun h0 => absurd rfl h0⟩
    obtain ⟨x, hx, hx40, hgd, hxc⟩ := (hok.shows ho.symm).at hj
    have hcell : w3.cell? ⟨b7, 0 + j * 1, none⟩ = some (.int .i64 (x : Nat)) := by
      rw [show 0 + j * 1 = j by omega]
      exact B7.cell hxc
    refine ⟨(j : Int), by decide, by rw [IntWalk.rem_in _ _ (by omega)]; omega, j, rfl, hj, _, hcell, ?_⟩
    · refine ⟨?_, t3⟩
      show _ = Value.tuple #[.int .i64 (ws.getD j 0 : Nat), .int .i64 0]
      rw [hgd]
      rfl

end

end Go.Proofs.YtlfolinjajjgjaaDoor

/- Contracts of the memory's functions that write: note, rest, settle. -/
namespace Go.Proofs.YtlfolinjajjgjaaDoor
open Go.E

/-! The blocks of the memory -/

theorem fm_disj {α : Type} {g : α → List Nat} : ∀ {l : List α}, (l.flatMap g).Nodup → ∀ {i j : Nat} {r s : α} {b : Nat}, l[i]? = some r → l[j]? = some s → b ∈ g r → b ∈ g s → i = j := by
  intro l
  induction l with
  | nil => intro _ i j r s b hi; simp at hi
  | cons x t ih =>
    intro h i j r s b hi hj hr hs
    rw [List.flatMap_cons, List.nodup_append] at h
    obtain ⟨_, h2, h3⟩ := h
    cases i with
    | zero =>
      cases j with
      | zero => rfl
      | succ j =>
        simp only [List.getElem?_cons_zero, Option.some.injEq, List.getElem?_cons_succ] at hi hj
        subst hi
        exact absurd rfl (h3 b hr b (List.mem_flatMap.2 ⟨s, List.mem_of_getElem? hj, hs⟩))
    | succ i =>
      cases j with
      | zero =>
        simp only [List.getElem?_cons_zero, Option.some.injEq, List.getElem?_cons_succ] at hi hj
        subst hj
        exact absurd rfl (h3 b hs b (List.mem_flatMap.2 ⟨r, List.mem_of_getElem? hi, hr⟩))
      | succ j =>
        simp only [List.getElem?_cons_succ] at hi hj
        rw [ih h2 hi hj hr hs]

theorem nodup_swap {A X B : List Nat} {o : Option Nat} {n : Nat} (h : (A ++ (X ++ B)).Nodup) (hlt : ∀ b ∈ A ++ (X ++ B), b < n) (ho : ∀ b, o = some b → b ∈ X ∨ n ≤ b) : (A ++ (o.toList ++ B)).Nodup := by
  have hAB : (A ++ B).Nodup := h.sublist (List.Sublist.append_left (List.sublist_append_right X B) A)
  cases o with
  | none => exact hAB
  | some b =>
    have hb : b ∉ A ++ B := by
      rcases ho b rfl with hX | hn
      · rw [List.nodup_append] at h
        obtain ⟨h1, h2, h3⟩ := h
        rw [List.nodup_append] at h2
        intro hm
        rcases List.mem_append.1 hm with hm | hm
        · exact absurd rfl (h3 b hm b (List.mem_append_left _ hX))
        · exact absurd rfl (h2.2.2 b hX b hm)
      · intro hm
        have := hlt b (by
          rcases List.mem_append.1 hm with hm | hm
          · exact List.mem_append_left _ hm
          · exact List.mem_append_right _ (List.mem_append_right _ hm))
        omega
    have hp : (A ++ ([b] ++ B)).Perm (b :: (A ++ B)) := by
      exact List.perm_middle (a := b) (l₁ := A) (l₂ := B)
    exact (hp.nodup_iff).2 (List.nodup_cons.2 ⟨hb, hAB⟩)

section
variable {w : World} {p bl bm : Nat} {rows : List (Ln × Value)} {evv : Value} {span nev : Nat}

def own2 (r : Ln × Value) : List Nat := r.2.ownBlock.toList

theorem foot_eq : foot p bl bm rows evv = [p, bl, bm] ++ (evv.ownBlock.toList ++ rows.flatMap own2) := rfl

theorem mem_own2 {r : Ln × Value} {b : Nat} : b ∈ own2 r ↔ r.2.ownBlock = some b := by simp [own2]

theorem foot_set {n : Nat} (hn : (foot p bl bm rows evv).Nodup) (hlt : ∀ b ∈ foot p bl bm rows evv, b < n) {i : Nat} {r r' : Ln × Value} (hr : rows[i]? = some r) (ho : ∀ b, r'.2.ownBlock = some b → r.2.ownBlock = some b ∨ n ≤ b) :
    (foot p bl bm (rows.set i r') evv).Nodup ∧ ∀ b ∈ foot p bl bm (rows.set i r') evv, b ∈ foot p bl bm rows evv ∨ n ≤ b := by
  have hi : i < rows.length := (List.getElem?_eq_some_iff.1 hr).1
  have hri : rows[i] = r := (List.getElem?_eq_some_iff.1 hr).2
  have e1 : rows.flatMap own2 = (rows.take i).flatMap own2 ++ (own2 r ++ (rows.drop (i + 1)).flatMap own2) := by
    conv => lhs; rw [← List.take_append_drop i rows, List.drop_eq_getElem_cons hi, hri]
    simp
  have e2 : (rows.set i r').flatMap own2 = (rows.take i).flatMap own2 ++ (r'.2.ownBlock.toList ++ (rows.drop (i + 1)).flatMap own2) := by
    rw [List.set_eq_take_append_cons_drop, if_pos hi]
    simp [own2]
  have f1 : foot p bl bm rows evv = ([p, bl, bm] ++ (evv.ownBlock.toList ++ (rows.take i).flatMap own2)) ++ (own2 r ++ (rows.drop (i + 1)).flatMap own2) := by rw [foot_eq, e1]; simp
  have f2 : foot p bl bm (rows.set i r') evv = ([p, bl, bm] ++ (evv.ownBlock.toList ++ (rows.take i).flatMap own2)) ++ (r'.2.ownBlock.toList ++ (rows.drop (i + 1)).flatMap own2) := by rw [foot_eq, e2]; simp
  rw [f1] at hn hlt
  rw [f1, f2]
  refine ⟨nodup_swap hn hlt fun b hb => (ho b hb).imp_left fun h => mem_own2.2 h, fun b hb => ?_⟩
  rcases List.mem_append.1 hb with hb | hb
  · exact .inl (List.mem_append_left _ hb)
  · rcases List.mem_append.1 hb with hb | hb
    · rcases ho b (by simpa using hb) with h | h
      · exact .inl (List.mem_append_right _ (List.mem_append_left _ (mem_own2.2 h)))
      · exact .inr h
    · exact .inl (List.mem_append_right _ (List.mem_append_right _ hb))

theorem foot_ev {n : Nat} (hn : (foot p bl bm rows evv).Nodup) (hlt : ∀ b ∈ foot p bl bm rows evv, b < n) {evv' : Value} (ho : ∀ b, evv'.ownBlock = some b → evv.ownBlock = some b ∨ n ≤ b) :
    (foot p bl bm rows evv').Nodup ∧ ∀ b ∈ foot p bl bm rows evv', b ∈ foot p bl bm rows evv ∨ n ≤ b := by
  rw [foot_eq] at hn hlt
  rw [foot_eq, foot_eq]
  refine ⟨nodup_swap hn hlt fun b hb => (ho b hb).imp_left fun h => by simp [h], fun b hb => ?_⟩
  rcases List.mem_append.1 hb with hb | hb
  · exact .inl (List.mem_append_left _ hb)
  · rcases List.mem_append.1 hb with hb | hb
    · rcases ho b (by simpa using hb) with h | h
      · exact .inl (List.mem_append_right _ (List.mem_append_left _ (by simp [h])))
      · exact .inr h
    · exact .inl (List.mem_append_right _ (List.mem_append_right _ hb))

theorem in_p : p ∈ foot p bl bm rows evv := by simp [foot]
theorem in_bl : bl ∈ foot p bl bm rows evv := by simp [foot]
theorem in_bm : bm ∈ foot p bl bm rows evv := by simp [foot]
theorem in_ev {b : Nat} (h : evv.ownBlock = some b) : b ∈ foot p bl bm rows evv := by simp [foot, h]
theorem in_row {i : Nat} {r : Ln × Value} (hr : rows[i]? = some r) {b : Nat} (h : r.2.ownBlock = some b) : b ∈ foot p bl bm rows evv := by
  rw [foot_eq]
  exact List.mem_append_right _ (List.mem_append_right _ (List.mem_flatMap.2 ⟨r, List.mem_of_getElem? hr, mem_own2.2 h⟩))

namespace MemX

theorem ne (h : MemX w p bl bm rows evv span nev) : p ≠ bl ∧ p ≠ bm ∧ bl ≠ bm := by
  have := h.nodup
  simp only [foot, List.nodup_cons, List.mem_cons, not_or] at this
  exact ⟨this.1.1, this.1.2.1, this.2.1.1⟩

theorem ev_ne (h : MemX w p bl bm rows evv span nev) {b : Nat} (hb : evv.ownBlock = some b) : b ≠ p ∧ b ≠ bl ∧ b ≠ bm ∧ ∀ (i : Nat) (r : Ln × Value), rows[i]? = some r → r.2.ownBlock ≠ some b := by
  have hn := h.nodup
  have hm : b ∈ evv.ownBlock.toList ++ rows.flatMap own2 := by simp [hb]
  have hn' := hn
  rw [foot_eq] at hn'
  simp only [foot, List.nodup_cons, List.mem_cons, not_or] at hn
  refine ⟨fun e => hn.1.2.2 (e ▸ hm), fun e => hn.2.1.2 (e ▸ hm), fun e => hn.2.2.1 (e ▸ hm), fun i r hr ho => ?_⟩
  rw [List.nodup_append] at hn'
  have := hn'.2.1
  rw [List.nodup_append] at this
  exact absurd rfl (this.2.2 b (by simp [hb]) b (List.mem_flatMap.2 ⟨r, List.mem_of_getElem? hr, mem_own2.2 ho⟩))

theorem row_ne (h : MemX w p bl bm rows evv span nev) {i : Nat} {r : Ln × Value} (hr : rows[i]? = some r) {b : Nat} (hb : r.2.ownBlock = some b) : b ≠ p ∧ b ≠ bl ∧ b ≠ bm ∧ evv.ownBlock ≠ some b ∧ ∀ (j : Nat) (s : Ln × Value), rows[j]? = some s → s.2.ownBlock = some b → i = j := by
  have hn := h.nodup
  have hm' : b ∈ rows.flatMap own2 := List.mem_flatMap.2 ⟨r, List.mem_of_getElem? hr, mem_own2.2 hb⟩
  have hm : b ∈ evv.ownBlock.toList ++ rows.flatMap own2 := List.mem_append_right _ hm'
  have hn' := hn
  rw [foot_eq] at hn'
  simp only [foot, List.nodup_cons, List.mem_cons, not_or] at hn
  refine ⟨fun e => hn.1.2.2 (e ▸ hm), fun e => hn.2.1.2 (e ▸ hm), fun e => hn.2.2.1 (e ▸ hm), fun ho => (h.ev_ne ho).2.2.2 i r hr hb, fun j s hs hsb => ?_⟩
  rw [List.nodup_append] at hn'
  have := hn'.2.1
  rw [List.nodup_append] at this
  exact fm_disj this.2.1 hr hs (mem_own2.2 hb) (mem_own2.2 hsb)

/-- One line is another. -/
theorem set (h : MemX w p bl bm rows evv span nev) {i : Nat} {r r' : Ln × Value} (hr : rows[i]? = some r) {w' : World} {S : List Nat} (t : Tr S w w') (hS : ∀ b ∈ S, b = bl ∨ b = bm ∨ r.2.ownBlock = some b)
    (hl : Blk w' bl ((rows.set i r').flatMap lcells) 69) (hp : Row w' 89 2 r'.2 r'.1.pend.length (pcells r'.1.pend)) (hok : r'.1.Ok) (hown : ∀ b, r'.2.ownBlock = some b → r.2.ownBlock = some b ∨ w.heap.size ≤ b) :
    MemX w' p bl bm (rows.set i r') evv span nev ∧ ∀ b ∈ foot p bl bm (rows.set i r') evv, b ∈ foot p bl bm rows evv ∨ w.heap.size ≤ b := by
  have hi : i < rows.length := (List.getElem?_eq_some_iff.1 hr).1
  obtain ⟨hf1, hf2⟩ := foot_set h.nodup h.foot_lt hr hown
  obtain ⟨n1, n2, n3⟩ := h.ne
  obtain ⟨xs, hxs⟩ := h.evs
  have hnp : p ∉ S := fun hm => by
    rcases hS p hm with e | e | e
    · exact n1 e
    · exact n2 e
    · exact (h.row_ne hr e).1 rfl
  refine ⟨⟨by rw [List.length_set]; exact h.head.tr t hnp, hl, fun s hs => ?_, ⟨xs, Row.tr hxs t fun b hb hm => ?_⟩, fun s hs => ?_, hf1, fun b hb => ?_, by rw [List.length_set]; exact h.small, Nat.lt_of_lt_of_le h.bmlt t.size⟩, hf2⟩
  · obtain ⟨j, hj⟩ := List.mem_iff_getElem?.1 hs
    rw [List.getElem?_set] at hj
    by_cases hij : i = j
    · subst hij
      rw [if_pos rfl, if_pos hi] at hj
      obtain rfl := Option.some.inj hj
      exact hp
    · rw [if_neg hij] at hj
      refine Row.tr (h.pend s (List.mem_of_getElem? hj)) t fun b hb hm => ?_
      have hsn := h.row_ne hj hb
      rcases hS b hm with e | e | e
      · exact hsn.2.1 e
      · exact hsn.2.2.1 e
      · exact hij (hsn.2.2.2.2 i r hr e).symm
  · have he := h.ev_ne hb
    rcases hS b hm with e | e | e
    · exact he.2.1 e
    · exact he.2.2.1 e
    · exact he.2.2.2 i r hr e
  · rcases List.mem_or_eq_of_mem_set hs with hs | rfl
    · exact h.ok s hs
    · exact hok
  · rcases hf2 b hb with hb | hb
    · exact h.ge b hb
    · have := h.ge p in_p
      have := h.foot_lt p in_p
      omega

/-- Other events. -/
theorem ev (h : MemX w p bl bm rows evv span nev) {w' : World} {S : List Nat} {evv' : Value} {n : Nat} {xs : List Value} (t : Tr S w w') (hS : ∀ b ∈ S, b = p ∨ evv.ownBlock = some b)
    (hh : Blk w' p [.slice (some ⟨bl, 0, none⟩) rows.length rows.length, .map (some bm), .int .i64 (span : Nat), evv'] 73) (he : Row w' 142 12 evv' n xs) (hown : ∀ b, evv'.ownBlock = some b → evv.ownBlock = some b ∨ w.heap.size ≤ b) :
    MemX w' p bl bm rows evv' span n ∧ ∀ b ∈ foot p bl bm rows evv', b ∈ foot p bl bm rows evv ∨ w.heap.size ≤ b := by
  obtain ⟨hf1, hf2⟩ := foot_ev h.nodup h.foot_lt hown
  obtain ⟨n1, n2, n3⟩ := h.ne
  refine ⟨⟨hh, h.lines.tr t fun hm => ?_, fun s hs => ?_, ⟨xs, he⟩, h.ok, hf1, fun b hb => ?_, h.small, Nat.lt_of_lt_of_le h.bmlt t.size⟩, hf2⟩
  · rcases hS bl hm with e | e
    · exact n1 e.symm
    · exact (h.ev_ne e).2.1 rfl
  · obtain ⟨j, hj⟩ := List.mem_iff_getElem?.1 hs
    refine Row.tr (h.pend s hs) t fun b hb hm => ?_
    have hsn := h.row_ne hj hb
    rcases hS b hm with e | e
    · exact hsn.1 e
    · exact hsn.2.2.2.1 e
  · rcases hf2 b hb with hb | hb
    · exact h.ge b hb
    · have := h.ge p in_p
      have := h.foot_lt p in_p
      omega

end MemX

/-! note -/

omit w p bl bm rows evv span nev in
theorem fill_one {sz : Nat} {z cs : List Value} (hz : z.length = sz) (hc : cs.length = sz) : fillL (fun i => some (i * sz, sz)) z [(0, .agg cs.toArray)] = some cs := by
  simp only [fillL, vcells, Nat.zero_mul, Nat.zero_add]
  rw [if_pos ⟨by simpa using hc, by omega⟩]
  rw [splice_all hz (by simpa using hc)]

theorem Row.one {w : World} {e size n : Nat} {v : Value} {xs : List Value} (h : Row w e size v n xs) : E.one v = true := by
  obtain ⟨a, c, rfl⟩ := Row.slice h
  rfl

theorem own_step {S : List Nat} {w0 w1 w2 : World} {v : Value} (t : Tr S w0 w1) (t' : Tr v.ownBlock.toList w1 w2) (hS : ∀ b, v.ownBlock = some b → b ∈ S ∨ w0.heap.size ≤ b) : Tr S w0 w2 :=
  t.trans t' (fun _ h => h) (fun b hb hlt => (hS b (by simpa using hb)).resolve_right (by omega))

theorem note_calls (h : MemX w p bl bm rows evv span nev) (hnev : nev < 549755813888) (cs : List Value) (hl : cs.length = 12) (h1 : cs.all E.one = true) :
    Calls cx.P 87 #[.pointer (some ⟨p, 0, none⟩), .agg cs.toArray] w (Ret fun _ w' => ∃ evv', MemX w' p bl bm rows evv' span (nev + 1) ∧ Tr (p :: evv.ownBlock.toList) w w' ∧ ∀ b ∈ foot p bl bm rows evv', b ∈ foot p bl bm rows evv ∨ w.heap.size ≤ b) := by
  obtain ⟨xs, hxs⟩ := h.evs
  refine calls_body cx_ok (args := [.pointer (some ⟨p, 0, none⟩), .agg cs.toArray]) Tryd.func87 rfl 14 rfl rfl [] rfl ?_
  intro b3 w1 n1
  have e1 := n1.num; have z1 := n1.size
  have hp := h.head.lt
  refine draw_rule cx_ok evv.ownBlock.toList (Plan.takes [0, 1, 2, 3, 4, 5] (.one true 6 (.one true 7 (.one true 8 (.one true 9 (.one false 10 .done)))))) (by kernel_rfl) ?_
  intro w2 d
  have zd := d.tr.size
  have hown : ∀ b ∈ evv.ownBlock.toList, b ≠ p ∧ b < w.heap.size := fun b hb => by
    have hb' : evv.ownBlock = some b := by simpa using hb
    exact ⟨(h.ev_ne hb').1, h.foot_lt b (in_ev hb')⟩
  have hpn : p ∉ evv.ownBlock.toList := fun hb => (hown p hb).1 rfl
  have hbn : b3 ∉ evv.ownBlock.toList := fun hb => by have := (hown b3 hb).2; omega
  refine ⟨_, fun w' t => t.cell ((h.head.ext n1.tr).cell rfl) hpn, cs, fun w' t => (show Blk w1 b3 cs _ from n1.blk).all.tr t hbn, hl, ?_⟩
  refine ⟨?_, trivial⟩
  refine ⟨cs, fill_one rfl hl, fun b6 w3 n3 => ⟨(d.tr.ext n3.tr).of_ext, ?_, trivial⟩⟩
  have e3 := n3.num; have z3 := n3.size
  have t3 : Tr [] w w3 := (n1.tr.ext d.tr).ext n3.tr
  refine append_own cx_ok (x := ⟨1, 24, false, [.slice none 0 0], .slice 142⟩) rfl rfl rfl (by decide) (Row.tr hxs t3 (by simp)) b6 0 1 1 cs hl n3.blk.all h1 (by omega) (by decide) ?_
  intro v' w4 hv' t4 hat _
  have t14 : Tr evv.ownBlock.toList w1 w4 := (d.tr.ext n3.tr).of_ext.trans t4 (fun _ h => h) (fun _ h _ => h)
  have z4 := t4.size
  have B4 := ((h.head.ext t3).tr t4 hpn)
  refine ⟨t14, ⟨t14, ⟨t14, ⟨⟨_, _, B4, by show 3 < 4; decide, Row.one hv', fun w5 u5 => ?_⟩, trivial⟩⟩, trivial⟩, trivial⟩
  have hne' : ∀ b, v'.ownBlock = some b → evv.ownBlock = some b ∨ w.heap.size ≤ b := fun b hb => by
    rcases hat with e | e
    · exact .inl (e ▸ hb)
    · rw [e] at hb
      obtain rfl := Option.some.inj hb
      exact .inr (by omega)
  have t5 : Tr (p :: evv.ownBlock.toList) w w5 := (t3.of_ext (S := p :: evv.ownBlock.toList)).trans (t4.trans u5.tr (S'' := p :: evv.ownBlock.toList) (fun b h => List.mem_cons_of_mem _ h) (fun b h _ => by simp at h; simp [h])) (fun _ h => h) (fun _ h _ => h)
  have hrow5 : Row w5 142 12 v' (nev + 1) (xs ++ cs) := Row.tr hv' u5.tr fun b hb hm => by
    have hbp : b = p := by simpa using hm
    subst hbp
    rcases hne' b hb with e | e
    · exact hpn (by simp [e])
    · omega
  obtain ⟨m1, m2⟩ := h.ev t5 (fun b hb => by simpa using hb) u5.blk hrow5 hne'
  exact ⟨v', m1, t5, m2⟩

end

end Go.Proofs.YtlfolinjajjgjaaDoor

/- Contracts of slices.Clone, of rest and of settle. -/
namespace Go.Proofs.YtlfolinjajjgjaaDoor
open Go.E

theorem eql_nil {t e : Nat} {x : TI} (ht : tget cx.tb t = some x) (hx : x.kd = .slice e) (p q : Operand) (a : Option Addr) (n c : Nat) (w : World) :
    (do eqGuard .eql t p q (.slice a n c) (.slice none 0 0); binOp .eql t (.slice a n c) (.slice none 0 0) : Sem Value).run cx.P w = .ok (.bool a.isNone) w := by
  have hu := run_under_slice cx_ok ht hx w
  have he : (Op.equal t (.slice a n c) (.slice none 0 0)).run cx.P w = .ok a.isNone w := by
    show (Op.equalIn (9999 + 1) t (.slice a n c) (.slice none 0 0)).run cx.P w = _
    unfold Op.equalIn
    simp only [Sem.run_bind, hu, Result.andThen_ok]
    cases a <;> rfl
  simp [eqGuard, binOp, he]

theorem row_empty {w w' : World} {b e size : Nat} (n : New w b (.cells ([] : List Value).toArray e) w') : Row w' e size (.slice (some ⟨b, 0, none⟩) 0 0) 0 [] :=
  ⟨by simp, .inr ⟨b, 0, #[], rfl, Nat.zero_le _, n.get, Nat.le_refl _, Nat.zero_le _, by simp, by simp⟩⟩

theorem clone_store_calls (w : World) (g o n c : Nat) (xs : List Value) (hl : xs.length = n * 2) (hc : Cells w g o xs) (h1 : xs.all E.one = true) (hn : n ≤ 1099511627776) :
    Calls cx.P 39 #[.slice (some ⟨g, o, none⟩) n c] w (Ret fun v w' => Row w' 89 2 v n xs ∧ Tr [] w w' ∧ ∃ b, v.ownBlock = some b ∧ w.heap.size ≤ b) := by
  refine calls_body cx_ok (args := [.slice (some ⟨g, o, none⟩) n c]) Tryd.func39 rfl 8 rfl rfl [.tmp 2] rfl ?_
  refine ⟨.bool false, w, eql_nil (t := 44) rfl rfl _ _ _ _ _ _, ?_⟩
  refine ⟨[], rfl, fun b w1 n1 => ?_⟩
  have e1 := n1.num; have z1 := n1.size
  refine append_own cx_ok (x := ⟨1, 24, false, [.slice none 0 0], .slice 89⟩) rfl rfl rfl (by decide) (row_empty n1) g o n c xs hl (hc.ext n1.tr) h1 (by omega) (by decide) ?_
  intro v w2 hv t2 hat _
  refine ⟨by simpa using hv, n1.tr.trans t2 (fun _ h => h) (fun c hc hlt => ?_), ?_⟩
  · simp [Value.ownBlock] at hc; omega
  · rcases hat with e | e
    · exact ⟨b, e, by omega⟩
    · exact ⟨_, e, by omega⟩

/-- What 'rest' does with the map of the busy lines: J is what is known of it ahead, J' behind. -/
structure Rest (bl bm : Nat) (i : Nat) (empty : Bool) (J J' : World → Prop) : Prop where
  keep : ∀ W W', J W → Tr [bl] W W' → J W'
  del : empty = true → ∀ W (ty : Nat) (K : Value → World → Prop), J W → (∀ o W', Upd W bm o W' → J' W' → K (.tuple #[]) W') → RunV cx.P (Builtin.delete_ #[70, 3] ty #[.map (some bm), .int .i64 (i : Nat)]) W K
  upd : empty = false → ∀ W (K : World → Prop), J W → (∀ o W', Upd W bm o W' → J' W' → K W') → RunU cx.P (Instr.mapUpdate 70 (.map (some bm)) (.int .i64 (i : Nat)) (.bool true)) W K

section
variable {w : World} {p bl bm : Nat} {rows : List (Ln × Value)} {evv : Value} {span nev : Nat}

theorem rest_calls {n : Nat} {sp ev : Value} (hh : Blk w p [.slice (some ⟨bl, 0, none⟩) n n, .map (some bm), sp, ev] 73) {i len c : Nat} {a : Option Addr} (hi : i < n)
    (hp : w.cell? ⟨bl, 0 + i * 11 + 9, none⟩ = some (.slice a len c)) {J J' : World → Prop} (hR : Rest bl bm i (decide (len = 0)) J J') (hJ : J w) :
    Calls cx.P 60 #[.pointer (some ⟨p, 0, none⟩), .int .i64 (i : Nat)] w (Ret fun _ w' => J' w' ∧ Tr [bm] w w') := by
  refine calls_body cx_ok (args := [.pointer (some ⟨p, 0, none⟩), .int .i64 (i : Nat)]) Tryd.func60 rfl 24 rfl rfl [] rfl ?_
  refine ⟨_, hh.cell rfl, i, rfl, hi, _, hp, fun h0 => ?_, fun h0 => ?_⟩
  · have h0' : len = 0 := by omega
    refine ⟨_, hh.cell rfl, ?_⟩
    exact hR.del (by simp [h0']) w _ _ hJ fun o w' u hJ' => ⟨hJ', u.tr⟩
  · have h0' : len ≠ 0 := by omega
    refine ⟨_, hh.cell rfl, ?_⟩
    exact hR.upd (by simp [h0']) w _ hJ fun o w' u hJ' => ⟨hJ', u.tr⟩

theorem pcells_drop (ps : List (Nat × Nat)) (k : Nat) : pcells (ps.drop k) = (pcells ps).drop (k * 2) := by
  induction ps generalizing k with
  | nil => simp [pcells]
  | cons p r ih =>
    cases k with
    | zero => simp
    | succ k =>
      have e : (k + 1) * 2 = k * 2 + 1 + 1 := by omega
      have e2 : pcells (p :: r) = .int .i64 (p.1 : Nat) :: .int .i64 (p.2 : Nat) :: pcells r := rfl
      rw [List.drop_succ_cons, ih k, e, e2, List.drop_succ_cons, List.drop_succ_cons]

theorem lcells_words (r : Ln × Value) (h : r.1.Ok) (ws : List Nat) (h8 : Line8 ws) : lcells ({ r.1 with ws := ws }, r.2) = (lcells r).take 0 ++ (wcells ws ++ (lcells r).drop (0 + 8)) := by
  have hl := wcells_len h.ws
  simp only [lcells, List.take_zero, List.nil_append, Nat.zero_add]
  rw [List.drop_append_of_le_length (by omega), List.drop_of_length_le (by omega)]
  simp

theorem lcells_tail {r r' : Ln × Value} (hw : r'.1.ws = r.1.ws) (h : r.1.ws.length = 8) (j : Nat) (v : Value) (ht : [.int .i64 (r'.1.code : Nat), r'.2, .int .i64 (r'.1.mark : Nat)] = ([.int .i64 (r.1.code : Nat), r.2, .int .i64 (r.1.mark : Nat)] : List Value).set j v) (hj : j < 3) :
    lcells r' = (lcells r).set (8 + j) v := by
  have hl : (wcells r.1.ws).length = 8 := by simp [wcells, h]
  unfold lcells
  rw [hw, ht, List.set_append, if_neg (by omega), hl, Nat.add_sub_cancel_left]

/-- One cell of a line. -/
theorem line_set {L : List (Ln × Value)} (hL : ∀ r ∈ L, (lcells r).length = 11) {i j : Nat} {r r' : Ln × Value} {v : Value} (hr : L[i]? = some r) (hj : j < 11) (hs : lcells r' = (lcells r).set j v) :
    (L.flatMap lcells).set (i * 11 + j) v = (L.set i r').flatMap lcells := by
  have hlr := hL r (List.mem_of_getElem? hr)
  have hlen := fm_len hL
  have hi : i < L.length := (List.getElem?_eq_some_iff.1 hr).1
  have := fm_splice (f := lcells) (k := 11) (o := j) (n := 1) (vs := [v]) _ rfl hL hr (by omega) (a' := r') (by
    rw [hs, ← splice_one (by omega)]
    rfl)
  rw [← this]
  have h2 := splice_one (l := L.flatMap lcells) (o := i * 11 + j) (v := v) (by rw [hlen]; omega)
  rw [← h2]
  rfl

theorem line_words {L : List (Ln × Value)} (hL : ∀ r ∈ L, (lcells r).length = 11) {i : Nat} {r : Ln × Value} (hr : L[i]? = some r) (hok : r.1.Ok) (ws : List Nat) (h8 : Line8 ws) :
    splice (L.flatMap lcells) (i * 11) 8 (wcells ws) = (L.set i ({ r.1 with ws := ws }, r.2)).flatMap lcells := by
  have := fm_splice (f := lcells) (k := 11) (o := 0) (n := 8) (vs := wcells ws) _ rfl hL hr (by omega) (a' := ({ r.1 with ws := ws }, r.2)) (lcells_words r hok ws h8)
  rw [← this]
  rfl

theorem optCells_shown {l : Ln} {k : Nat} : optCells (l.shows k) = wcells (l.shown k) := by
  unfold Ln.shown
  cases l.shows k <;> rfl

end

end Go.Proofs.YtlfolinjajjgjaaDoor

/- Contract of settle. -/
namespace Go.Proofs.YtlfolinjajjgjaaDoor
open Go.E

theorem lens_set {L : List (Ln × Value)} (hL : ∀ r ∈ L, (lcells r).length = 11) {i : Nat} {r' : Ln × Value} (h : (lcells r').length = 11) : ∀ r ∈ L.set i r', (lcells r).length = 11 := fun r hr => by
  rcases List.mem_or_eq_of_mem_set hr with hr | rfl
  · exact hL r hr
  · exact h

theorem lw_cell {w : World} {bl T : Nat} {L : List (Ln × Value)} (hL : ∀ r ∈ L, (lcells r).length = 11) (B : Blk w bl (L.flatMap lcells) T) {i : Nat} {r : Ln × Value} (hr : L[i]? = some r) {j : Nat} {v : Value} (hv : (lcells r)[j]? = some v) :
    w.cell? ⟨bl, i * 11 + j, none⟩ = some v := B.cell (fm_get hL hr hv)

theorem lw_words {w : World} {bl T : Nat} {L : List (Ln × Value)} (hL : ∀ r ∈ L, (lcells r).length = 11) (B : Blk w bl (L.flatMap lcells) T) {i : Nat} {r : Ln × Value} (hr : L[i]? = some r) : Cells w bl (0 + i * 11 + 0 + 0) (wcells r.1.ws) := fun j v hv => by
  rw [show 0 + i * 11 + 0 + 0 + j = i * 11 + j by omega]
  refine lw_cell hL B hr ?_
  unfold lcells
  rw [List.getElem?_append_left (List.getElem?_eq_some_iff.1 hv).1]
  exact hv

theorem get_set {L : List (Ln × Value)} {i : Nat} {r : Ln × Value} (hi : i < L.length) : (L.set i r)[i]? = some r := by simp [hi]

theorem max_run (P : Program) (a b : Int) (t : Nat) (ats : Array TypeId) (w : World) : (Builtin.max_ ats t #[.int .i64 a, .int .i64 b]).run P w = .ok (.int .i64 (if b > a then b else a)) w := by
  simp [Builtin.max_, Builtin.max2]

section
variable {w : World} {p bl bm : Nat} {rows : List (Ln × Value)} {evv : Value} {span nev : Nat}

theorem settle0_calls (h : MemX w p bl bm rows evv span nev) (i : Nat) (hi : i < rows.length) :
    Calls cx.P 40 #[.pointer (some ⟨p, 0, none⟩), .int .i64 (i : Nat), .int .i64 (0 : Nat)] w (Ret fun _ w' => w = w') := by
  refine calls_body cx_ok (args := [.pointer (some ⟨p, 0, none⟩), .int .i64 (i : Nat), .int .i64 (0 : Nat)]) Tryd.func40 rfl 58 rfl rfl [] rfl ?_
  refine ⟨_, h.head.cell rfl, i, rfl, hi, fun _ => ?_, fun h0 => absurd rfl h0⟩
  rfl

set_option maxHeartbeats 1000000 in
theorem settle_calls (h : MemX w p bl bm rows evv span nev) (hg : Gl w) (i k : Nat) {r : Ln × Value} (hr : rows[i]? = some r) (hk : k ≤ r.1.pend.length) (hk0 : k ≠ 0) (hsm : r.1.pend.length ≤ 1099511627776)
    {J J' : World → Prop} (hR : Rest bl bm i (decide (r.1.pend.length - k = 0)) J J') (hJ : J w) :
    Calls cx.P 40 #[.pointer (some ⟨p, 0, none⟩), .int .i64 (i : Nat), .int .i64 (k : Nat)] w
      (Ret fun _ w' => ∃ v', MemX w' p bl bm (rows.set i (r.1.settle k, v')) evv span nev ∧ J' w' ∧ Tr [bl, bm] w w' ∧ ∀ b, v'.ownBlock = some b → w.heap.size ≤ b) := by
  have hi : i < rows.length := (List.getElem?_eq_some_iff.1 hr).1
  have hmem := List.mem_of_getElem? hr
  have hok := h.ok r hmem
  have hrow := h.pend r hmem
  have hL := h.lens
  have hlen := fm_len hL
  obtain ⟨n1, n2, n3⟩ := h.ne
  have hs8 := hok.shown k
  have hmark := hok.mark
  obtain ⟨L, hLd⟩ : ∃ L, L = rows.flatMap lcells := ⟨_, rfl⟩
  rcases Row.elem hrow with ⟨_, hn⟩ | ⟨g, cap, hv, hncap, hcapm, hcs⟩
  · omega
  have hgb : r.2.ownBlock = some g := by rw [hv]; rfl
  have hgl : g < w.heap.size := Row.lt hrow hgb
  obtain ⟨g1, g2, g3, _⟩ := h.row_ne hr hgb
  refine calls_body cx_ok (args := [.pointer (some ⟨p, 0, none⟩), .int .i64 (i : Nat), .int .i64 (k : Nat)]) Tryd.func40 rfl 58 rfl rfl [] rfl ?_
  refine ⟨_, h.head.cell rfl, i, rfl, hi, fun h0 => absurd h0 (by omega), fun _ => ?_⟩
  refine call (shows_calls h hg i k hr hk) ?_
  rintro _ w1 ⟨rfl, t1⟩
  have hso : (optCells (r.1.shows k)).length = 8 := by rw [optCells_shown]; exact wcells_len hs8
  refine ⟨_, _, h.lines.ext t1, hso, by rw [hlen]; show 0 + i * 11 + 0 + 0 + 8 ≤ _; omega, by rw [optCells_shown]; exact wcells_one _, fun w2 u2 => ?_⟩
  -- the words
  obtain ⟨r1, hr1⟩ : ∃ r1 : Ln × Value, r1 = ({ r.1 with ws := r.1.shown k }, r.2) := ⟨_, rfl⟩
  have ok1 : r1.1.Ok := by rw [hr1]; exact ⟨hs8, hok.code, hok.pend, hok.mark⟩
  have B2 : Blk w2 bl (splice (rows.flatMap lcells) (0 + i * 11 + 0 + 0) 8 (optCells (r.1.shows k))) 69 := u2.blk
  rw [show 0 + i * 11 + 0 + 0 = i * 11 by omega, optCells_shown, line_words hL hr hok _ hs8, ← hr1] at B2
  have hL1 := lens_set (i := i) hL (lcells_len ok1)
  have T2 : Tr [bl] w w2 := t1.of_ext.same u2.tr
  have hi1 : i < (rows.set i r1).length := by simpa using hi
  refine ⟨_, by simpa [hr1] using lw_words hL1 B2 (get_set hi), wcells_len hs8, ?_⟩
  have g2' : Gl w2 := hg.tr T2 (by simp; exact h.ge bl in_bl)
  refine call (Encode_calls (r.1.shown k) hs8 w2 g2') ?_
  rintro _ w3 ⟨rfl, t3⟩
  have B3 := B2.ext t3
  refine ⟨_, _, B3, by rw [fm_len hL1]; show 0 + i * 11 + 0 + 8 < _; omega, rfl, fun w4 u4 => ?_⟩
  -- the code
  obtain ⟨r2, hr2⟩ : ∃ r2 : Ln × Value, r2 = ({ r1.1 with code := enc (r.1.shown k) }, r1.2) := ⟨_, rfl⟩
  have ok2 : r2.1.Ok := by rw [hr2]; exact ⟨ok1.ws, enc_lt _, ok1.pend, ok1.mark⟩
  have B4 : Blk w4 bl (((rows.set i r1).flatMap lcells).set (0 + i * 11 + 0 + 8) (.int .i64 (enc (r.1.shown k) : Nat))) 69 := u4.blk
  rw [show 0 + i * 11 + 0 + 8 = i * 11 + 8 by omega, line_set (j := 8) (r' := r2) hL1 (get_set hi) (by omega) (lcells_tail (j := 0) (by rw [hr2]) ok1.ws.len _ (by rw [hr2]; rfl) (by omega)), List.set_set] at B4
  have hL2 := lens_set (i := i) hL (lcells_len ok2)
  have T4 : Tr [bl] w w4 := (T2.trans t3 (fun _ h => h) (fun _ h _ => by cases h)).same u4.tr
  have hp4 : w4.cell? ⟨bl, 0 + i * 11 + 9, none⟩ = some (.slice (some ⟨g, 0, none⟩) r.1.pend.length cap) := by
    rw [show 0 + i * 11 + 9 = i * 11 + 9 by omega]
    refine lw_cell hL2 B4 (get_set hi) ?_
    rw [lcells_pend ok2, hr2, hr1, ← hv]
  refine ⟨_, hp4, k, r.1.pend.length, rfl, rfl, hk, hncap, ?_⟩
  obtain ⟨o, ho, hco⟩ : ∃ o, sadr g 0 k 2 cap = ⟨g, o, none⟩ ∧ Cells w4 g o (pcells (r.1.pend.drop k)) := by
    unfold sadr
    by_cases hc : cap = k
    · rw [if_pos hc]
      refine ⟨0, rfl, ?_⟩
      rw [List.drop_of_length_le (by omega)]
      intro i v hv
      simp [pcells] at hv
    · rw [if_neg hc]
      refine ⟨0 + k * 2, rfl, fun j v hv => ?_⟩
      rw [pcells_drop, List.getElem?_drop] at hv
      have := hcs _ _ hv
      have := T4.cell this (by simp; omega)
      rw [show 0 + k * 2 + j = 0 + (k * 2 + j) by omega]
      exact this
  rw [show sadr g 0 k _ cap = _ from ho]
  refine call (clone_store_calls w4 g o (r.1.pend.length - k) (cap - k) (pcells (r.1.pend.drop k)) (by rw [pcells_len, List.length_drop]) hco (pcells_one _) (by omega)) ?_
  rintro v' w5 ⟨hv', t5, b', hb', hbf⟩
  have z4 := T4.size
  have B5 := B4.ext t5
  refine ⟨_, _, B5, by rw [fm_len hL2]; show 0 + i * 11 + 9 < _; simp; omega, Row.one hv', fun w6 u6 => ?_⟩
  -- the pending stores
  obtain ⟨r3, hr3⟩ : ∃ r3 : Ln × Value, r3 = ({ r2.1 with pend := r.1.pend.drop k }, v') := ⟨_, rfl⟩
  have hlen3 : (lcells r3).length = 11 := by
    have : r3.1.ws = r.1.shown k := by rw [hr3, hr2, hr1]
    simp [lcells, this, wcells_len hs8]
  have B6 : Blk w6 bl (((rows.set i r2).flatMap lcells).set (0 + i * 11 + 9) v') 69 := u6.blk
  rw [show 0 + i * 11 + 9 = i * 11 + 9 by omega, line_set (j := 9) (r' := r3) hL2 (get_set hi) (by omega) (lcells_tail (j := 1) (by rw [hr3]) ok2.ws.len _ (by rw [hr3]; rfl) (by omega)), List.set_set] at B6
  have hL3 := lens_set (i := i) hL hlen3
  have T6 : Tr [bl] w w6 := (T4.trans t5 (fun _ h => h) (fun _ h _ => by cases h)).same u6.tr
  have hm6 : w6.cell? ⟨bl, 0 + i * 11 + 10, none⟩ = some (.int .i64 (r.1.mark : Nat)) := by
    rw [show 0 + i * 11 + 10 = i * 11 + 10 by omega]
    refine lw_cell hL3 B6 (get_set hi) ?_
    have : (wcells r3.1.ws).length = 8 := by
      have : r3.1.ws = r.1.shown k := by rw [hr3, hr2, hr1]
      rw [this]; exact wcells_len hs8
    have h2 := get_tail (t := [.int .i64 (r3.1.code : Nat), r3.2, .int .i64 (r3.1.mark : Nat)]) 8 this 2
    unfold lcells
    rw [h2, hr3, hr2, hr1]
    rfl
  refine ⟨_, hm6, ((r.1.mark : Int) - k), by rw [w64 (by omega)], _, w6, max_run _ _ _ _ _ _, ?_⟩
  have hmx : (if ((r.1.mark : Int) - k) > 0 then ((r.1.mark : Int) - k) else 0) = ((r.1.mark - k : Nat) : Int) := by split <;> omega
  rw [hmx]
  refine ⟨_, _, B6, by rw [fm_len hL3]; show 0 + i * 11 + 10 < _; simp; omega, rfl, fun w7 u7 => ?_⟩
  have B7 : Blk w7 bl (((rows.set i r3).flatMap lcells).set (0 + i * 11 + 10) (.int .i64 (r.1.mark - k : Nat))) 69 := u7.blk
  have hset : r.1.settle k = ⟨r.1.shown k, enc (r.1.shown k), r.1.pend.drop k, r.1.mark - k⟩ := by unfold Ln.settle; rw [if_neg hk0]
  have hws3 : r3.1.ws = r.1.shown k := by rw [hr3, hr2, hr1]
  rw [show 0 + i * 11 + 10 = i * 11 + 10 by omega, line_set (j := 10) (r' := (r.1.settle k, v')) hL3 (get_set hi) (by omega) (lcells_tail (j := 2) (by rw [hset, hws3]) (by rw [hws3]; exact hs8.len) _ (by rw [hset, hr3, hr2, hr1]; rfl) (by omega)), List.set_set] at B7
  have T7 : Tr [bl] w w7 := T6.same u7.tr
  have ok4 := hok.settle k
  have hL4 := lens_set (i := i) (r' := (r.1.settle k, v')) hL (lcells_len ok4)
  obtain ⟨a, c, hvs⟩ := Row.slice hv'
  have hp7 : w7.cell? ⟨bl, 0 + i * 11 + 9, none⟩ = some (.slice a (r.1.pend.length - k) c) := by
    rw [show 0 + i * 11 + 9 = i * 11 + 9 by omega, ← hvs]
    exact lw_cell hL4 B7 (get_set hi) (lcells_pend ok4)
  have hv7 : Row w7 89 2 v' (r.1.pend.length - k) (pcells (r.1.pend.drop k)) := Row.tr (Row.tr hv' u6.tr (by intro b hb hm; simp at hm; rw [hb'] at hb; have := Option.some.inj hb; have := h.lines.lt; omega)) u7.tr (by intro b hb hm; simp at hm; rw [hb'] at hb; have := Option.some.inj hb; have := h.lines.lt; omega)
  refine call (rest_calls (h.head.tr T7 (by simp; exact n1)) hi hp7 hR (hR.keep _ _ hJ T7)) ?_
  rintro _ w8 ⟨hJ8, t8⟩
  have T8 : Tr [bl, bm] w w8 := T7.trans t8 (fun _ h => by simp at h; simp [h]) (fun _ h _ => by simp at h; simp [h])
  have hfresh : ∀ b, v'.ownBlock = some b → w.heap.size ≤ b := fun b hb => by rw [hb'] at hb; have := Option.some.inj hb; omega
  have hbm := h.bmlt
  have hrow8 : Row w8 89 2 v' (r.1.settle k).pend.length (pcells (r.1.settle k).pend) := by
    rw [hset]
    show Row w8 _ 2 v' (r.1.pend.drop k).length _
    rw [List.length_drop]
    exact Row.tr hv7 t8 fun b hb hm => by have := hfresh b hb; simp at hm; omega
  obtain ⟨m1, _⟩ := h.set hr T8 (fun b hb => by simp at hb; rcases hb with e | e <;> simp [e]) (B7.tr t8 (by simp; exact n3)) hrow8 ok4 (fun b hb => .inr (hfresh b hb))
  exact ⟨v', m1, hJ8, T8, hfresh⟩

end

end Go.Proofs.YtlfolinjajjgjaaDoor

/- Contracts of Flush, put, Store and Fence. -/
namespace Go.Proofs.YtlfolinjajjgjaaDoor
open Go.E

/-! The map of the busy lines -/

theorem busyM_set {rows : List (Ln × Value)} {i : Nat} {r' : Ln × Value} (hi : i < rows.length) : busyM (rows.set i r') = if r'.1.pend = [] then delM (busyM rows) (i : Nat) else setM (busyM rows) (i : Nat) (.bool true) := by
  funext k
  rcases k with n | n
  · show busyM (rows.set i r') ((n : Nat) : Int) = _
    by_cases hn : n = i
    · subst hn
      have : (rows.set n r')[n]? = some r' := by simp [hi]
      unfold busyM
      simp only [this]
      split <;> simp_all [delM, setM]
    · have h1 : (rows.set i r')[n]? = rows[n]? := by rw [List.getElem?_set, if_neg (fun e => hn e.symm)]
      have h2 : ¬ (Int.ofNat n = (i : Int)) := fun e => hn (Int.ofNat.inj e)
      have h3 : busyM (rows.set i r') (Int.ofNat n) = busyM rows (Int.ofNat n) := by unfold busyM; simp only [h1]
      show busyM (rows.set i r') (Int.ofNat n) = _
      rw [h3]
      split
      · simp only [delM, if_neg h2]
      · simp only [setM, if_neg h2]
  · have h2 : ¬ (Int.negSucc n = (i : Int)) := fun e => by have := e; omega
    split
    · simp only [delM, if_neg h2]; rfl
    · simp only [setM, if_neg h2]; rfl

theorem rest_im {bl bm i : Nat} {m : Int → Option Value} {empty : Bool} (hne : bl ≠ bm) : Rest bl bm i empty (fun W => IM W bm m) (fun W => IM W bm (if empty then delM m (i : Nat) else setM m (i : Nat) (.bool true))) where
  keep W W' h t := h.tr t (by simp; exact fun e => hne e.symm)
  del he W ty K h hK := map_delete cx_ok (x := ⟨1, 8, false, [.map none], .map 3 4⟩) rfl rfl rfl rfl rfl h _ fun o W' u h' => hK o W' u (by rw [he]; exact h')
  upd he W K h hK := map_update cx_ok (x := ⟨1, 8, false, [.map none], .map 3 4⟩) rfl rfl rfl rfl h _ _ fun o W' u h' => hK o W' u (by rw [he]; exact h')

theorem rest_ir {bl bm it i cnt : Nat} {m : Int → Option Value} {left : Int → Prop} {empty : Bool} (hne : bl ≠ bm) (hit : it ≠ bl) (hleft : ¬ left (i : Nat)) (hin : m (i : Nat) ≠ none) :
    Rest bl bm i empty (fun W => IR W bm it m left cnt) (fun W => ∃ cnt', cnt' ≤ cnt ∧ IR W bm it (if empty then delM m (i : Nat) else setM m (i : Nat) (.bool true)) left cnt') where
  keep W W' h t := h.tr t (by simp; exact fun e => hne e.symm) (by simp; exact hit)
  del he W ty K h hK := map_delete_in cx_ok (x := ⟨1, 8, false, [.map none], .map 3 4⟩) rfl rfl rfl rfl rfl h _ hleft fun o W' cnt' u hc h' => hK o W' u ⟨cnt', hc, by rw [he]; exact h'⟩
  upd he W K h hK := map_update_in cx_ok (x := ⟨1, 8, false, [.map none], .map 3 4⟩) rfl rfl rfl rfl h _ _ hin fun o W' u h' => hK o W' u ⟨cnt, Nat.le_refl _, by rw [he]; exact h'⟩

section
variable {w : World} {p bl bm : Nat} {rows : List (Ln × Value)} {evv : Value} {span nev : Nat}

/-- The whole memory. -/
structure MemW (w : World) (p bl bm : Nat) (rows : List (Ln × Value)) (evv : Value) (span nev : Nat) : Prop extends MemX w p bl bm rows evv span nev where
  busy : IM w bm (busyM rows)

theorem MemW.ext {w' : World} (h : MemW w p bl bm rows evv span nev) (t : Tr [] w w') : MemW w' p bl bm rows evv span nev := ⟨h.toMemX.ext t, h.busy.tr t (by simp)⟩

theorem MemW.note {w' : World} {evv' : Value} (h : MemW w p bl bm rows evv span nev) (hx : MemX w' p bl bm rows evv' span (nev + 1)) (t : Tr (p :: evv.ownBlock.toList) w w') : MemW w' p bl bm rows evv' span (nev + 1) :=
  ⟨hx, h.busy.tr t (by
    have := h.ne
    simp only [List.mem_cons, Option.mem_toList, not_or]
    exact ⟨fun e => this.2.1 e.symm, fun e => (h.ev_ne e).2.2.1 rfl⟩)⟩

def Ln.flush (l : Ln) : Ln := { l with mark := l.pend.length }
theorem Ln.Ok.flush {l : Ln} (h : l.Ok) : l.flush.Ok := ⟨h.ws, h.code, h.pend, Nat.le_refl _⟩

theorem Flush_body (h : MemW w p bl bm rows evv span nev) (hnev : nev < 549755813888) (i : Nat) {r : Ln × Value} (hr : rows[i]? = some r) :
    wpC cx none 29 Tryd.f75.body.get! (BodyQ cx [.tmp 4] fun v w' => v = .int .i64 0 ∧ ∃ evv', MemW w' p bl bm (rows.set i (r.1.flush, r.2)) evv' span (nev + 1) ∧ Step w w' (foot p bl bm rows evv) (foot p bl bm (rows.set i (r.1.flush, r.2)) evv'))
      (argsEnv 0 [.pointer (some ⟨p, 0, none⟩), .int .i64 (i : Nat)]) [] w := by
  have hi : i < rows.length := (List.getElem?_eq_some_iff.1 hr).1
  have hmem := List.mem_of_getElem? hr
  have hok := h.ok r hmem
  have hrow := h.pend r hmem
  have hL := h.lens
  obtain ⟨n1, n2, n3⟩ := h.ne
  obtain ⟨a, c, hv⟩ := Row.slice hrow
  have hpc := h.pcell hr
  rw [hv] at hpc
  refine call (has_calls h.toMemX i) ?_
  rintro v _ ⟨hv', rfl⟩
  rw [decide_eq_true (by omega)] at hv'
  subst hv'
  refine draw_rule cx_ok [] (Plan.takes [0, 1, 2, 3, 4, 5, 6, 7, 8, 9, 10, 11, 12, 13] (.one true 14 (.one true 15 (.one false 16 .done)))) (by kernel_rfl) ?_
  intro w1 d
  refine ⟨_, fun w' t => t.cell (h.head.cell rfl) (by simp), _, fun w' t => t.cell (h.head.cell rfl) (by simp), i, rfl, hi, _, fun w' t => t.cell hpc (by simp), ?_⟩
  refine ⟨⟨i, rfl, hi, d.tr, ?_⟩, trivial⟩
  refine ⟨⟨d.tr, ?_⟩, trivial⟩
  have B1 := h.lines.ext d.tr
  refine ⟨⟨_, _, B1, by rw [fm_len hL]; show 0 + i * 11 + 10 < _; omega, rfl, fun w2 u2 => ?_⟩, trivial⟩
  have B2 : Blk w2 bl ((rows.flatMap lcells).set (0 + i * 11 + 10) (.int .i64 (r.1.pend.length : Nat))) 69 := u2.blk
  rw [show 0 + i * 11 + 10 = i * 11 + 10 by omega, line_set (j := 10) (r' := (r.1.flush, r.2)) hL hr (by omega) (lcells_tail (r' := (r.1.flush, r.2)) (r := r) (j := 2) rfl hok.ws.len (.int .i64 (r.1.pend.length : Nat)) rfl (by omega))] at B2
  have t2 : Tr [bl] w w2 := d.tr.of_ext.same u2.tr
  have hrow2 : Row w2 89 2 r.2 r.1.flush.pend.length (pcells r.1.flush.pend) := Row.tr hrow t2 fun b hb hm => (h.row_ne hr hb).2.1 (by simpa using hm)
  obtain ⟨m2, f2⟩ := h.set hr t2 (fun b hb => .inl (by simpa using hb)) B2 hrow2 hok.flush (fun b hb => .inl hb)
  have hbusy : busyM (rows.set i (r.1.flush, r.2)) = busyM rows := by
    rw [busyM_set hi]
    have e : busyM rows = busyM (rows.set i r) := by
      rw [← (List.getElem?_eq_some_iff.1 hr).2, List.set_getElem_self]
    conv => rhs; rw [e, busyM_set hi]
    rfl
  have mw2 : MemW w2 p bl bm (rows.set i (r.1.flush, r.2)) evv span nev := ⟨m2, by rw [hbusy]; exact h.busy.tr t2 (by simp; exact fun e => n3 e.symm)⟩
  refine ⟨_, rfl, ?_⟩
  refine call (note_calls m2 hnev _ rfl rfl) ?_
  rintro _ w3 ⟨evv', m3, t3, f3⟩
  refine ⟨rfl, evv', mw2.note m3 t3, ?_⟩
  have s12 : Step w w2 (foot p bl bm rows evv) (foot p bl bm (rows.set i (r.1.flush, r.2)) evv) := ⟨t2.mono fun b hb _ => by simp at hb; rw [hb]; exact in_bl, f2⟩
  have s23 : Step w2 w3 (foot p bl bm (rows.set i (r.1.flush, r.2)) evv) (foot p bl bm (rows.set i (r.1.flush, r.2)) evv') := ⟨t3.mono fun b hb _ => by
    rcases List.mem_cons.1 hb with rfl | hb
    · exact in_p
    · exact in_ev (by simpa using hb), f3⟩
  exact s12.trans s23

end

end Go.Proofs.YtlfolinjajjgjaaDoor

/- Contracts of put and Store. -/
namespace Go.Proofs.YtlfolinjajjgjaaDoor
open Go.E

section
variable {w : World} {p bl bm : Nat} {rows : List (Ln × Value)} {evv : Value} {span nev : Nat}

def Ln.put (l : Ln) (j v : Nat) : Ln := { l with pend := l.pend ++ [(j, v)] }
theorem Ln.Ok.put {l : Ln} (h : l.Ok) {j v : Nat} (hj : j < 8) (hv : v < 2 ^ 40) : (l.put j v).Ok :=
  ⟨h.ws, h.code, fun p hp => by
    simp only [Ln.put, List.mem_append, List.mem_singleton] at hp
    rcases hp with hp | rfl
    · exact h.pend p hp
    · exact ⟨hj, hv⟩, by have := h.mark; simp [Ln.put]; omega⟩

theorem mapUpdate_busy {W : World} {m : Int → Option Value} (h : IM W bm m) (i : Nat) {K : World → Prop} (hK : ∀ o W', Upd W bm o W' → IM W' bm (setM m (i : Nat) (.bool true)) → K W') :
    RunU cx.P (Instr.mapUpdate 70 (.map (some bm)) (.int .i64 (i : Nat)) (.bool true)) W K :=
  map_update cx_ok (x := ⟨1, 8, false, [.map none], .map 3 4⟩) rfl rfl rfl rfl h _ _ hK

set_option maxHeartbeats 1000000 in
theorem put_calls (h : MemW w p bl bm rows evv span nev) (hg : Gl w) (hnev : nev < 549755813888) (kind : Int) (i j v : Nat) (hj : j < 8) (hv : v < 2 ^ 40) {r : Ln × Value} (hr : rows[i]? = some r) (hst : (chk r.1.ws r.1.code).state ≠ 2) (hsm : r.1.pend.length ≤ 549755813888) :
    Calls cx.P 88 #[.pointer (some ⟨p, 0, none⟩), .int .i64 kind, .int .i64 (8 * i + j : Nat), .int .i64 (v : Nat), .func (.func 87) #[.pointer (some ⟨p, 0, none⟩)] #[]] w
      (Ret fun x w' => x = .int .i64 0 ∧ ∃ v' evv', MemW w' p bl bm (rows.set i (r.1.put j v, v')) evv' span (nev + 1) ∧ Step w w' (foot p bl bm rows evv) (foot p bl bm (rows.set i (r.1.put j v, v')) evv')) := by
  have hi : i < rows.length := (List.getElem?_eq_some_iff.1 hr).1
  have hmem := List.mem_of_getElem? hr
  have hok := h.ok r hmem
  have hrow := h.pend r hmem
  have hL := h.lens
  have hsml := h.small
  obtain ⟨n1, n2, n3⟩ := h.ne
  have hpc := h.pcell hr
  have hdiv : IntKind.i64.wrap (((8 * i + j : Nat) : Int).tdiv 8) = (i : Int) := by rw [IntWalk.i64_quo _ _ (by omega)]; omega
  refine calls_body cx_ok (args := [.pointer (some ⟨p, 0, none⟩), .int .i64 kind, .int .i64 (8 * i + j : Nat), .int .i64 (v : Nat), .func (.func 87) #[.pointer (some ⟨p, 0, none⟩)] #[]]) Tryd.func88 rfl 68 rfl rfl [.tmp 10] rfl ?_
  refine ⟨_, by decide, hdiv, fun h0 => absurd h0 (by omega), fun _ => ?_⟩
  refine call (has_calls h.toMemX i) ?_
  rintro _ _ ⟨hx, rfl⟩
  rw [decide_eq_true (by omega)] at hx
  subst hx
  refine call (word_calls (v : Int) w) ?_
  rintro _ _ ⟨hx, rfl⟩
  rw [decide_eq_true (by omega)] at hx
  subst hx
  refine call (State_calls h.toMemX hg i hr) ?_
  rintro _ w1 ⟨rfl, t1⟩
  refine ⟨fun h0 => absurd h0 (by omega), fun _ => ?_⟩
  have h1 := h.ext t1
  have hrown : ∀ b ∈ r.2.ownBlock.toList, b ≠ p ∧ b ≠ bl ∧ b < w.heap.size := fun b hb => by
    have hb' : r.2.ownBlock = some b := by simpa using hb
    have := h.row_ne hr hb'
    exact ⟨this.1, this.2.1, h.foot_lt b (in_row hr hb')⟩
  have hpn : p ∉ r.2.ownBlock.toList := fun hb => (hrown p hb).1 rfl
  have hbln : bl ∉ r.2.ownBlock.toList := fun hb => (hrown bl hb).2.1 rfl
  refine draw_rule cx_ok r.2.ownBlock.toList (Plan.takes [0, 1, 2, 3, 4, 5, 6, 7, 8, 9, 10, 11, 12, 13, 14, 15, 16] (.one true 17 (.one true 18 (.one true 19 (.one true 20 (.one false 21 .done)))))) (by kernel_rfl) ?_
  intro w2 d
  have zd := d.tr.size; have z1 := t1.size
  refine ⟨_, fun w' t => t.cell (h1.head.cell rfl) hpn, _, fun w' t => t.cell (h1.head.cell rfl) hpn, i, rfl, hi, _, fun w' t => t.cell (t1.cell hpc (by simp)) hbln, ?_⟩
  refine ⟨(j : Int), by decide, by rw [IntWalk.rem_in _ _ (by omega)]; omega, _, rfl, ?_⟩
  refine ⟨⟨_, rfl, fun b6 w3 n3' => ⟨(d.tr.ext n3'.tr).of_ext, ?_⟩⟩, trivial⟩
  have e3 := n3'.num; have z3 := n3'.size
  have t3 : Tr [] w w3 := (t1.ext d.tr).ext n3'.tr
  refine ⟨?_, trivial⟩
  have hb6 : Cells w3 b6 0 (pcells [(j, v)]) := n3'.blk.all
  refine append_own cx_ok (x := ⟨1, 24, false, [.slice none 0 0], .slice 89⟩) rfl rfl rfl (by decide) (Row.tr hrow t3 (by simp)) b6 0 1 1 (pcells [(j, v)]) rfl hb6 rfl (by omega) (by decide) ?_
  intro v' w4 hv' t4 hat _
  have t14 : Tr r.2.ownBlock.toList w1 w4 := (d.tr.ext n3'.tr).of_ext.trans t4 (fun _ h => h) (fun _ h _ => h)
  have z4 := t4.size
  have B4 := (h1.lines.ext (d.tr.ext n3'.tr)).tr t4 hbln
  refine ⟨t14, ⟨⟨i, rfl, hi, t14, ?_⟩, trivial⟩⟩
  refine ⟨⟨t14, ?_⟩, trivial⟩
  refine ⟨⟨_, _, B4, by rw [fm_len hL]; show 0 + i * 11 + 9 < _; omega, Row.one hv', fun w5 u5 => ?_⟩, trivial⟩
  have B5 : Blk w5 bl ((rows.flatMap lcells).set (0 + i * 11 + 9) v') 69 := u5.blk
  rw [show 0 + i * 11 + 9 = i * 11 + 9 by omega, line_set (j := 9) (r' := (r.1.put j v, v')) hL hr (by omega) (lcells_tail (r' := (r.1.put j v, v')) (r := r) (j := 1) rfl hok.ws.len v' rfl (by omega))] at B5
  have hne' : ∀ b, v'.ownBlock = some b → r.2.ownBlock = some b ∨ w.heap.size ≤ b := fun b hb => by
    rcases hat with e | e
    · exact .inl (e ▸ hb)
    · rw [e] at hb
      obtain rfl := Option.some.inj hb
      exact .inr (by omega)
  have t5 : Tr (bl :: r.2.ownBlock.toList) w w5 := (t3.of_ext (S := bl :: r.2.ownBlock.toList)).trans (t4.trans u5.tr (S'' := bl :: r.2.ownBlock.toList) (fun b h => List.mem_cons_of_mem _ h) (fun b h _ => by simp at h; simp [h])) (fun _ h => h) (fun _ h _ => h)
  have hbmn : bm ∉ (bl :: r.2.ownBlock.toList) := by
    simp only [List.mem_cons, Option.mem_toList, not_or]
    exact ⟨fun e => n3 e.symm, fun e => (h.row_ne hr e).2.2.1 rfl⟩
  have hpn5 : p ∉ (bl :: r.2.ownBlock.toList) := by
    simp only [List.mem_cons, Option.mem_toList, not_or]
    exact ⟨n1, fun e => (h.row_ne hr e).1 rfl⟩
  have hfresh5 : ∀ b, v'.ownBlock = some b → b ≠ bl ∧ b ≠ bm := fun b hb => by
    rcases hne' b hb with e | e
    · exact ⟨(h.row_ne hr e).2.1, (h.row_ne hr e).2.2.1⟩
    · have := h.foot_lt bl in_bl
      have := h.bmlt
      exact ⟨by omega, by omega⟩
  have hrow5 : Row w5 89 2 v' (r.1.pend.length + 1) (pcells r.1.pend ++ pcells [(j, v)]) := Row.tr hv' u5.tr fun b hb hm => (hfresh5 b hb).1 (by simpa using hm)
  refine ⟨_, (h.head.tr t5 hpn5).cell rfl, ?_⟩
  refine mapUpdate_busy (h.busy.tr t5 hbmn) i fun o w6 u6 hm6 => ?_
  have t6 : Tr (bl :: bm :: r.2.ownBlock.toList) w w6 := t5.trans u6.tr (fun b h => by rcases List.mem_cons.1 h with rfl | h <;> simp_all) (fun b h _ => by simp at h; simp [h])
  have hrow6 : Row w6 89 2 v' (r.1.put j v).pend.length (pcells (r.1.put j v).pend) := by
    have e1 : (r.1.put j v).pend.length = r.1.pend.length + 1 := by simp [Ln.put]
    have e2 : pcells (r.1.put j v).pend = pcells r.1.pend ++ pcells [(j, v)] := by simp [Ln.put, pcells]
    rw [e1, e2]
    exact Row.tr hrow5 u6.tr fun b hb hm => (hfresh5 b hb).2 (by simpa using hm)
  obtain ⟨m6, f6⟩ := h.toMemX.set hr t6 (fun b hb => by simpa using hb) (B5.tr u6.tr (by simp; exact n3)) hrow6 (hok.put hj hv) hne'
  have mw6 : MemW w6 p bl bm (rows.set i (r.1.put j v, v')) evv span nev := ⟨m6, by rw [busyM_set hi, if_neg (by simp [Ln.put])]; exact hm6⟩
  refine ⟨_, m6.head.cell rfl, _, rfl, ?_⟩
  refine call (note_calls m6 hnev _ rfl rfl) ?_
  rintro _ w7 ⟨evv', m7, t7, f7⟩
  refine ⟨rfl, v', evv', mw6.note m7 t7, ?_⟩
  have s1 : Step w w6 (foot p bl bm rows evv) (foot p bl bm (rows.set i (r.1.put j v, v')) evv) := ⟨t6.mono fun b hb _ => by
    simp only [List.mem_cons, Option.mem_toList] at hb
    rcases hb with rfl | rfl | hb
    · exact in_bl
    · exact in_bm
    · exact in_row hr hb, f6⟩
  have s2 : Step w6 w7 (foot p bl bm (rows.set i (r.1.put j v, v')) evv) (foot p bl bm (rows.set i (r.1.put j v, v')) evv') := ⟨t7.mono fun b hb _ => by
    rcases List.mem_cons.1 hb with rfl | hb
    · exact in_p
    · exact in_ev (by simpa using hb), f7⟩
  exact s1.trans s2

theorem Store_calls (h : MemW w p bl bm rows evv span nev) (hg : Gl w) (hnev : nev < 549755813888) (i j v : Nat) (hj : j < 8) (hv : v < 2 ^ 40) {r : Ln × Value} (hr : rows[i]? = some r) (hst : (chk r.1.ws r.1.code).state ≠ 2) (hsm : r.1.pend.length ≤ 549755813888) :
    Calls cx.P 76 #[.pointer (some ⟨p, 0, none⟩), .int .i64 (8 * i + j : Nat), .int .i64 (v : Nat)] w
      (Ret fun x w' => x = .int .i64 0 ∧ ∃ v' evv', MemW w' p bl bm (rows.set i (r.1.put j v, v')) evv' span (nev + 1) ∧ Step w w' (foot p bl bm rows evv) (foot p bl bm (rows.set i (r.1.put j v, v')) evv')) := by
  refine calls_body cx_ok (args := [.pointer (some ⟨p, 0, none⟩), .int .i64 (8 * i + j : Nat), .int .i64 (v : Nat)]) Tryd.func76 rfl 13 rfl rfl [.tmp 6] rfl ?_
  refine call (put_calls h hg hnev 1 i j v hj hv hr hst hsm) ?_
  rintro _ w1 ⟨rfl, h1⟩
  exact ⟨rfl, h1⟩

end

end Go.Proofs.YtlfolinjajjgjaaDoor

/- Contract of Fence. -/
namespace Go.Proofs.YtlfolinjajjgjaaDoor
open Go.E

theorem busy_some {rows : List (Ln × Value)} {k : Int} {v : Value} (h : busyM rows k = some v) : ∃ i r, k = ((i : Nat) : Int) ∧ rows[i]? = some r ∧ r.1.pend ≠ [] := by
  rcases k with n | n
  · unfold busyM at h
    dsimp only at h
    split at h
    · rename_i r hr
      split at h
      · cases h
      · rename_i hp
        exact ⟨n, r, rfl, hr, hp⟩
    · cases h
  · cases h

theorem busy_iff {rows : List (Ln × Value)} {i : Nat} {r : Ln × Value} (hr : rows[i]? = some r) : busyM rows (i : Nat) ≠ none ↔ r.1.pend ≠ [] := by
  show busyM rows (Int.ofNat i) ≠ none ↔ _
  unfold busyM
  simp only [hr]
  split <;> simp_all

theorem settle_none {l : Ln} (h : l.Ok) (hp : l.pend = []) : l.settle l.mark = l := by
  have := h.mark
  rw [hp] at this
  have h0 : l.mark = 0 := by simpa using this
  unfold Ln.settle
  rw [if_pos h0]

section
variable {w : World} {p bl bm : Nat} {rows : List (Ln × Value)} {evv : Value} {span nev : Nat}

/-- The state of the loop: the rows now, which keys are to come, how many at most. -/
structure FS where
  rows : List (Ln × Value)
  left : Int → Prop
  cnt : Nat

structure FI (w : World) (p bl bm it : Nat) (rows : List (Ln × Value)) (evv : Value) (span nev : Nat) (s : FS) (W : World) : Prop where
  mem : MemX W p bl bm s.rows evv span nev
  ir : IR W bm it (busyM s.rows) s.left s.cnt
  step : Step w W (foot p bl bm rows evv) (foot p bl bm s.rows evv)
  len : s.rows.length = rows.length
  rel : ∀ i r0, rows[i]? = some r0 → ∃ r, s.rows[i]? = some r ∧ (s.left ((i : Nat) : Int) → r.1 = r0.1) ∧ (¬ s.left ((i : Nat) : Int) → r.1 = r0.1.settle r0.1.mark)

set_option maxHeartbeats 1000000 in
theorem Fence_body (h : MemW w p bl bm rows evv span nev) (hg : Gl w) (hnev : nev < 549755813888) (hsm : ∀ r ∈ rows, r.1.pend.length ≤ 1099511627776) :
    wpC cx none 26 Tryd.f74.body.get! (BodyQ cx [] fun _ w' => ∃ rows' evv', rows'.map (·.1) = rows.map (fun r => r.1.settle r.1.mark) ∧ MemW w' p bl bm rows' evv' span (nev + 1) ∧ Step w w' (foot p bl bm rows evv) (foot p bl bm rows' evv'))
      (argsEnv 0 [.pointer (some ⟨p, 0, none⟩)]) [] w := by
  obtain ⟨n1, n2, n3⟩ := h.ne
  refine ⟨_, h.head.cell rfl, ?_⟩
  refine map_range cx_ok (x := ⟨1, 8, false, [.map none], .map 3 4⟩) rfl rfl h.busy fun it o w1 cnt n1' hir => ?_
  have e1 := n1'.num; have z1 := n1'.size
  have hlt := h.foot_lt
  have hitbl : it ≠ bl := by have := hlt bl in_bl; omega
  have hitp : it ≠ p := by have := hlt p in_p; omega
  have hitbm : it ≠ bm := by have := h.bmlt; omega
  refine loop_rule cx_ok (fun s W => FI w p bl bm it rows evv span nev s W ∧ it < W.heap.size ∧ it ∉ foot p bl bm s.rows evv) (fun _ => [(0, .pointer (some ⟨p, 0, none⟩)), (7, .pointer (some ⟨it, 0, none⟩))]) (fun s => s.cnt) ⟨rows, fun k => busyM rows k ≠ none, cnt⟩ ⟨rfl, rfl, trivial⟩
    ⟨⟨h.toMemX.ext n1'.tr, hir, ⟨n1'.tr.of_ext, fun b hb => .inl hb⟩, rfl, fun i r0 hr0 => ⟨r0, hr0, fun _ => rfl, fun hl => ?_⟩⟩, by omega, fun hm => by have := hlt it hm; omega⟩ ?_
  · have hp : r0.1.pend = [] := Decidable.byContradiction fun hp => hl ((busy_iff hr0).2 hp)
    exact (settle_none (h.ok r0 (List.mem_of_getElem? hr0)) hp).symm
  rintro ⟨R, left, cnt⟩ W ⟨⟨hm, hi, hs, hlen, hrel⟩, hitW, hitF⟩
  refine map_next hi (fun hdone => ?_) (fun k v W1 cnt' hk hmk hcnt t1 hi1 hent => ?_)
  · -- the end
    have hmap : R.map (·.1) = rows.map (fun r => r.1.settle r.1.mark) := by
      apply List.ext_getElem?
      intro i
      simp only [List.getElem?_map]
      cases hr0 : rows[i]? with
      | none =>
        have hge : rows.length ≤ i := by rw [List.getElem?_eq_none_iff] at hr0; exact hr0
        have : R[i]? = none := by rw [List.getElem?_eq_none_iff]; show R.length ≤ i; have : R.length = rows.length := hlen; omega
        rw [this]; rfl
      | some r0 =>
        obtain ⟨r, hr, _, hr2⟩ := hrel i r0 hr0
        rw [show R[i]? = some r from hr]
        simp only [Option.map_some, hr2 (hdone _)]
    have gW : Gl W := hg.tr hs.tr fun b hb => h.ge b hb
    refine ⟨_, rfl, ?_⟩
    refine call (note_calls hm hnev _ rfl rfl) ?_
    rintro _ w3 ⟨evv', m3, t3, f3⟩
    have mw : MemW W p bl bm R evv span nev := ⟨hm, hi.im⟩
    refine ⟨R, evv', hmap, mw.note m3 t3, hs.trans ⟨t3.mono fun b hb _ => ?_, f3⟩⟩
    rcases List.mem_cons.1 hb with rfl | hb
    · exact in_p
    · exact in_ev (by simpa using hb)
  · -- a round
    have hcnt : cnt' < cnt := hcnt
    obtain ⟨i, r, rfl, hr, hp⟩ := busy_some hmk
    have hr : R[i]? = some r := hr
    have hi' : i < R.length := (List.getElem?_eq_some_iff.1 hr).1
    have hi0 : i < rows.length := by have : R.length = rows.length := hlen; omega
    have hok := hm.ok r (List.mem_of_getElem? hr)
    have hm1 : MemX W1 p bl bm R evv span nev := hm.tr t1 fun b hb => by simp at hb; subst hb; exact hitF
    obtain ⟨r0, hr0⟩ : ∃ r0, rows[i]? = some r0 := ⟨rows[i], List.getElem?_eq_getElem hi0⟩
    have hrr0 : r.1 = r0.1 := by
      obtain ⟨r', hr', h1, _⟩ := hrel i r0 hr0
      rw [show R[i]? = some r' from hr'] at hr
      obtain rfl := Option.some.inj hr
      exact h1 hk
    have hs1 : Step w W1 (foot p bl bm rows evv) (foot p bl bm R evv) := ⟨hs.tr.trans t1 (fun _ h => h) fun b hb hlt' => by simp at hb; omega, hs.sub⟩
    have gW1 : Gl W1 := hg.tr hs1.tr fun b hb => h.ge b hb
    refine ⟨_, _, hent, ?_⟩
    refine ⟨_, hm1.head.cell rfl, i, rfl, hi', _, hm1.mark hr, ?_⟩
    -- the rows behind the round
    have fin : ∀ (W2 : World) (r' : Ln × Value) (cnt2 : Nat), cnt2 ≤ cnt' → r'.1 = r.1.settle r.1.mark → MemX W2 p bl bm (R.set i r') evv span nev → IR W2 bm it (busyM (R.set i r')) (fun j => left j ∧ j ≠ (i : Nat)) cnt2 →
        Step W1 W2 (foot p bl bm R evv) (foot p bl bm (R.set i r') evv) → it < W2.heap.size → it ∉ foot p bl bm (R.set i r') evv →
        (([] : List Deferred) = []) ∧ ∃ s : FS, Sub [(0, .pointer (some ⟨p, 0, none⟩)), (7, .pointer (some ⟨it, 0, none⟩))] [(0, .pointer (some ⟨p, 0, none⟩)), (7, .pointer (some ⟨it, 0, none⟩))] ∧ (FI w p bl bm it rows evv span nev s W2 ∧ it < W2.heap.size ∧ it ∉ foot p bl bm s.rows evv) ∧ s.cnt < cnt := by
      intro W2 r' cnt2 hc2 hr' hm2 hi2 hs2 hit2 hit2f
      refine ⟨rfl, ⟨R.set i r', _, cnt2⟩, ⟨rfl, rfl, trivial⟩, ⟨⟨hm2, hi2, hs1.trans hs2, by simpa using hlen, fun j rj hj => ?_⟩, hit2, hit2f⟩, by show cnt2 < cnt; omega⟩
      by_cases hji : j = i
      · subst hji
        rw [hr0] at hj
        obtain rfl := Option.some.inj hj
        exact ⟨r', by simp [hi'], fun hl => absurd rfl hl.2, fun _ => by rw [hr', hrr0]⟩
      · obtain ⟨rr, h1, h2, h3⟩ := hrel j rj hj
        refine ⟨rr, by show (R.set i r')[j]? = _; rw [List.getElem?_set, if_neg (fun e => hji e.symm)]; exact h1, fun hl => h2 hl.1, fun hl => h3 fun hl' => hl ⟨hl', fun e => hji (by exact_mod_cast e)⟩⟩
    by_cases hmk0 : r.1.mark = 0
    · rw [hmk0]
      refine call (settle0_calls hm1 i hi') ?_
      rintro _ _ rfl
      have hset : R.set i r = R := by rw [← (List.getElem?_eq_some_iff.1 hr).2, List.set_getElem_self]
      obtain ⟨hh, s, _, hI, hc⟩ := fin W1 r cnt' (Nat.le_refl _) (by rw [hmk0]; rfl) (by rw [hset]; exact hm1) (by rw [hset]; exact hi1) (by rw [hset]; exact Step.refl _ _) (Nat.lt_of_lt_of_le hitW t1.size) (by rw [hset]; exact hitF)
      exact ⟨rfl, s, ⟨rfl, rfl, trivial⟩, hI, hc⟩
    · have hmark := hok.mark
      have hin : busyM R ((i : Nat) : Int) ≠ none := (busy_iff hr).2 hp
      refine call (settle_calls hm1 gW1 i r.1.mark hr hmark hmk0 (by rw [hrr0]; exact hsm r0 (List.mem_of_getElem? hr0)) (rest_ir (left := fun j => left j ∧ j ≠ (i : Nat)) n3 hitbl (by simp) hin) hi1) ?_
      rintro _ W2 ⟨v', hm2, ⟨cnt2, hc2, hi2⟩, t2, hf2⟩
      have hbusy : busyM (R.set i (r.1.settle r.1.mark, v')) = if decide (r.1.pend.length - r.1.mark = 0) then delM (busyM R) (i : Nat) else setM (busyM R) (i : Nat) (.bool true) := by
        rw [busyM_set hi']
        have : (r.1.settle r.1.mark).pend = r.1.pend.drop r.1.mark := by unfold Ln.settle; rw [if_neg hmk0]
        have h2 : (r.1.settle r.1.mark).pend = [] ↔ r.1.pend.length - r.1.mark = 0 := by
          rw [this, ← List.length_eq_zero_iff, List.length_drop]
        by_cases h3 : r.1.pend.length - r.1.mark = 0
        · rw [if_pos (h2.2 h3), if_pos (by simpa using h3)]
        · rw [if_neg (fun h => h3 (h2.1 h)), if_neg (by simpa using h3)]
      have hlt1 := hm1.foot_lt
      have hfs := foot_set hm1.nodup hlt1 (r' := (r.1.settle r.1.mark, v')) hr (fun b hb => .inr (hf2 b hb))
      have hit1 : it < W1.heap.size := Nat.lt_of_lt_of_le hitW t1.size
      obtain ⟨hh, s, _, hI, hc⟩ := fin W2 (r.1.settle r.1.mark, v') cnt2 hc2 rfl hm2 (by rw [hbusy]; exact hi2) ⟨t2.mono fun b hb _ => (show b = bl ∨ b = bm by simpa using hb).elim (fun e => e ▸ in_bl) (fun e => e ▸ in_bm), hfs.2⟩ (Nat.lt_of_lt_of_le hit1 t2.size)
        (fun hm => (hfs.2 it hm).elim (fun h => hitF h) (fun h => by omega))
      exact ⟨rfl, s, ⟨rfl, rfl, trivial⟩, hI, hc⟩

end

end Go.Proofs.YtlfolinjajjgjaaDoor

/- intent: the slots; slices.Index, Contains, Clone; lines. -/
namespace Go.Proofs.YtlfolinjajjgjaaDoor
open Go.E

/-- A slot. -/
structure Sl where
  slot : Nat
  owner : Nat
  stamp : Nat
  blocks : List Nat
  deriving DecidableEq

def blocksOf (ws : List Nat) : List Nat := (ws.drop 2).takeWhile (fun x => x != 0)
def slotOf (i : Nat) (ws : List Nat) : List Sl := if ws.getD 0 0 = 0 then [] else [⟨i, ws.getD 0 0, ws.getD 1 0, blocksOf ws⟩]

/-- What Read returns of the first n lines; none: one is rotten. -/
def rdTo (f : Nat → Option (List Nat)) : Nat → Option (List Sl)
  | 0 => some []
  | i + 1 => match rdTo f i, f i with
    | some S, some ws => some (S ++ slotOf i ws)
    | _, _ => none

theorem rdTo_none {f : Nat → Option (List Nat)} {i : Nat} (h : f i = none) : ∀ n, i < n → rdTo f n = none := by
  intro n
  induction n with
  | zero => intro hi; omega
  | succ n ih =>
    intro hi
    unfold rdTo
    by_cases hin : i = n
    · subst hin
      rw [h]
      split
      · rename_i h2; cases h2
      · rfl
    · rw [ih (by omega)]

/-! Slices of integers -/

def icells (xs : List Nat) : List Value := xs.map fun n : Nat => .int .i64 (n : Int)
theorem icells_len (xs : List Nat) : (icells xs).length = xs.length := by simp [icells]
theorem icells_one (xs : List Nat) : (icells xs).all E.one = true := by simp [icells, E.one]
theorem icells_get {xs : List Nat} {i x : Nat} (h : xs[i]? = some x) : (icells xs)[i]? = some (.int .i64 (x : Nat)) := by simp [icells, h]

/-- A slice whose cells are xs, to read alone. -/
def Sli (w : World) (v : Value) (n : Nat) (xs : List Value) : Prop := ∃ a c, v = .slice a n c ∧ n ≤ c ∧ ((a = none ∧ n = 0) ∨ ∃ g o, a = some ⟨g, o, none⟩ ∧ Cells w g o xs)

theorem Row.sli {w : World} {e size n : Nat} {v : Value} {xs : List Value} (h : Row w e size v n xs) : Sli w v n xs := by
  rcases Row.elem h with ⟨rfl, rfl⟩ | ⟨g, cap, rfl, hn, _, hc⟩
  · exact ⟨none, 0, rfl, Nat.le_refl _, .inl ⟨rfl, rfl⟩⟩
  · exact ⟨_, cap, rfl, hn, .inr ⟨g, 0, rfl, hc⟩⟩

theorem Sli.ext {w w' : World} {v : Value} {n : Nat} {xs : List Value} (h : Sli w v n xs) (t : Tr [] w w') : Sli w' v n xs := by
  obtain ⟨a, c, hv, hn, h | ⟨g, o, ha, hc⟩⟩ := h
  · exact ⟨a, c, hv, hn, .inl h⟩
  · exact ⟨a, c, hv, hn, .inr ⟨g, o, ha, hc.ext t⟩⟩

/-- The place of a number. -/
def idxOf (xs : List Nat) (v : Int) : Int := match xs.findIdx? (fun x : Nat => v == (x : Int)) with
  | some i => (i : Int)
  | none => -1

theorem Index_calls (w : World) (xs : List Nat) (s : Value) (hs : Sli w s xs.length (icells xs)) (hb : xs.length ≤ 4611686018427387904) (v : Int) :
    Calls cx.P 35 #[s, .int .i64 v] w (Ret fun x w' => x = .int .i64 (idxOf xs v) ∧ w = w') := by
  obtain ⟨a, c, rfl, _, hs⟩ := hs
  refine calls_body cx_ok (args := [.slice a xs.length c, .int .i64 v]) Tryd.func35 rfl 19 rfl rfl [.tmp 4] rfl ?_
  refine loop_rule cx_ok (fun k W => k ≤ xs.length ∧ (∀ i x, i < k → xs[i]? = some x → v ≠ (x : Int)) ∧ w = W) (fun k : Nat => [(0, .slice a xs.length c), (1, .int .i64 v), (7, .int .i64 xs.length), (8, .int .i64 k)]) (fun k => xs.length - k) 0 ⟨rfl, rfl, rfl, rfl, trivial⟩ ⟨by omega, fun i x hi => by omega, rfl⟩ ?_
  rintro k _ ⟨hk, hno, rfl⟩
  refine ⟨fun hlt => ?_, fun hge => ?_⟩
  · have hk' : k < xs.length := by omega
    obtain ⟨g, o, rfl, hc⟩ := hs.resolve_left (fun hh => by have := hh.2; omega)
    have hx : xs[k]? = some xs[k] := List.getElem?_eq_getElem hk'
    have hcell : w.cell? ⟨g, o + k * 1, none⟩ = some (.int .i64 (xs[k] : Nat)) := by rw [Nat.mul_one]; exact hc k _ (icells_get hx)
    refine ⟨k, rfl, hk', _, hcell, fun he => ?_, fun hne => ?_⟩
    · refine ⟨?_, rfl⟩
      have : xs.findIdx? (fun x : Nat => v == (x : Int)) = some k := by
        rw [List.findIdx?_eq_some_iff_getElem]
        refine ⟨hk', by simpa using he, fun j hj => ?_⟩
        have := hno j xs[j] hj (List.getElem?_eq_getElem (by omega))
        simpa using this
      unfold idxOf
      rw [this]
      rfl
    · refine ⟨((k + 1 : Nat) : Int), by rw [w64 (by omega)]; omega, ?_⟩
      refine ⟨rfl, k + 1, ⟨rfl, rfl, rfl, rfl, trivial⟩, ⟨by omega, fun i x hi hx' => ?_, rfl⟩, by omega⟩
      by_cases hik : i = k
      · subst hik
        rw [hx] at hx'
        obtain rfl := Option.some.inj hx'
        exact hne
      · exact hno i x (by omega) hx'
  · obtain rfl : k = xs.length := by omega
    refine ⟨?_, rfl⟩
    have : xs.findIdx? (fun x : Nat => v == (x : Int)) = none := by
      rw [List.findIdx?_eq_none_iff]
      intro x hx
      obtain ⟨i, hi⟩ := List.mem_iff_getElem?.1 hx
      have := hno i x (List.getElem?_eq_some_iff.1 hi).1 hi
      simpa using this
    unfold idxOf
    rw [this]
    rfl

theorem idxOf_neg {xs : List Nat} {v : Int} : 0 ≤ idxOf xs v ↔ ∃ x ∈ xs, v = (x : Int) := by
  unfold idxOf
  cases h : xs.findIdx? (fun x : Nat => v == (x : Int)) with
  | none =>
    rw [List.findIdx?_eq_none_iff] at h
    constructor
    · intro h0; exact absurd h0 (by decide)
    · rintro ⟨x, hx, hv⟩
      have := h x hx
      simp [hv] at this
  | some i =>
    rw [List.findIdx?_eq_some_iff_getElem] at h
    obtain ⟨hi, hv, _⟩ := h
    constructor
    · intro _; exact ⟨_, List.getElem_mem hi, by simpa using hv⟩
    · intro _; exact Int.natCast_nonneg _

theorem Contains_calls (w : World) (xs : List Nat) (s : Value) (hs : Sli w s xs.length (icells xs)) (hb : xs.length ≤ 4611686018427387904) (v : Int) :
    Calls cx.P 49 #[s, .int .i64 v] w (Ret fun x w' => x = .bool (xs.any fun x : Nat => v == (x : Int)) ∧ w = w') := by
  refine calls_body cx_ok (args := [s, .int .i64 v]) Tryd.func49 rfl 9 rfl rfl [.tmp 4] rfl ?_
  refine call (Index_calls w xs s hs hb v) ?_
  rintro _ _ ⟨rfl, rfl⟩
  refine ⟨fun h => ?_, fun h => ?_⟩
  · obtain ⟨x, hx, hv⟩ := idxOf_neg.1 h
    refine ⟨?_, rfl⟩
    have : (xs.any fun x : Nat => v == (x : Int)) = true := List.any_eq_true.2 ⟨x, hx, by simpa using hv⟩
    rw [this]; rfl
  · refine ⟨?_, rfl⟩
    have : (xs.any fun x : Nat => v == (x : Int)) = false := by
      rw [List.any_eq_false]
      intro x hx hv
      exact h (idxOf_neg.2 ⟨x, hx, by simpa using hv⟩)
    rw [this]; rfl

theorem clone_int_calls (w : World) (g o n c : Nat) (xs : List Value) (hl : xs.length = n * 1) (hc : Cells w g o xs) (h1 : xs.all E.one = true) (hn : n ≤ 1099511627776) :
    Calls cx.P 36 #[.slice (some ⟨g, o, none⟩) n c] w (Ret fun v w' => Row w' 3 1 v n xs ∧ Tr [] w w' ∧ ∃ b, v.ownBlock = some b ∧ w.heap.size ≤ b) := by
  refine calls_body cx_ok (args := [.slice (some ⟨g, o, none⟩) n c]) Tryd.func36 rfl 8 rfl rfl [.tmp 2] rfl ?_
  refine ⟨.bool false, w, eql_nil (t := 52) rfl rfl _ _ _ _ _ _, ?_⟩
  refine ⟨[], rfl, fun b w1 n1 => ?_⟩
  have e1 := n1.num; have z1 := n1.size
  refine append_own cx_ok (x := ⟨1, 24, false, [.slice none 0 0], .slice 3⟩) rfl rfl rfl (by decide) (row_empty n1) g o n c xs hl (hc.ext n1.tr) h1 (by omega) (by decide) ?_
  intro v w2 hv t2 hat _
  refine ⟨by simpa using hv, n1.tr.trans t2 (fun _ h => h) (fun c hc hlt => ?_), ?_⟩
  · simp [Value.ownBlock] at hc; omega
  · rcases hat with e | e
    · exact ⟨b, e, by omega⟩
    · exact ⟨_, e, by omega⟩

/-! lines -/

theorem lines_calls (w : World) (p : Nat) (lc : List Value) : Calls cx.P 34 #[.pointer (some ⟨p, 0, none⟩), .agg lc.toArray] w (Ret fun v w' => ∃ b2 b3, v = .func (.func 57) #[] #[.pointer (some ⟨b3, 0, none⟩), .pointer (some ⟨b2, 0, none⟩)] ∧
      Blk w' b2 [.pointer (some ⟨p, 0, none⟩)] 23 ∧ Blk w' b3 lc 27 ∧ Tr [] w w' ∧ w.heap.size ≤ b2 ∧ w.heap.size ≤ b3) := by
  refine calls_body cx_ok (args := [.pointer (some ⟨p, 0, none⟩), .agg lc.toArray]) Tryd.func34 rfl 6 rfl rfl [.tmp 4] rfl ?_
  intro b2 w1 n1 b3 w2 n2
  have e1 := n1.num; have e2 := n2.num; have z1 := n1.size
  exact ⟨b2, b3, rfl, n1.blk.ext n2.tr, n2.blk, n1.tr.ext n2.tr, by omega, by omega⟩

section
variable {p bl bm : Nat} {rows : List (Ln × Value)} {evv : Value} {span nev : Nat}

def shr (r : Ln × Value) : Option (List Nat) := r.1.shows r.1.pend.length

/-- What stands in the words behind k loads. -/
def part8 (o : Option (List Nat)) (k : Nat) : List Nat := match o with
  | some ws => ws.take k ++ zeros8.drop k
  | none => zeros8

set_option maxHeartbeats 1000000 in
theorem lines1_calls (l : Nat) (lc : List Value) (from_ n : Nat) (h3 : lc[3]? = some (.int .i64 (from_ : Nat))) (h4 : lc[4]? = some (.int .i64 (n : Nat))) (hfit : from_ + n ≤ rows.length) (b3 b2 : Nat) (J : Nat → World → Prop) (X : World → Prop)
    (hJ : ∀ i W, J i W → MemX W p bl bm rows evv span nev ∧ Gl W ∧ Blk W b2 [.pointer (some ⟨p, 0, none⟩)] 23 ∧ Blk W b3 lc 27)
    (hS : ∀ i W W', J i W → Tr [] W W' → J i W')
    (hy : ∀ i r W, i < n → rows[from_ + i]? = some r → J i W → CallYP cx l [.agg (optCells (shr r)).toArray, .int .i64 (optErr (shr r))] W fun v W' => (v = .bool true ∧ J (i + 1) W') ∨ (v = .bool false ∧ X W'))
    (w : World) (h0 : J 0 w) : Calls cx.P 57 #[.func (.yield l) #[] #[], .pointer (some ⟨b3, 0, none⟩), .pointer (some ⟨b2, 0, none⟩)] w (Ret fun _ w' => J n w' ∨ X w') := by
  refine calls_body cx_ok (args := [.func (.yield l) #[] #[], .pointer (some ⟨b3, 0, none⟩), .pointer (some ⟨b2, 0, none⟩)]) Tryd.func57 rfl 39 rfl rfl [] rfl ?_
  obtain ⟨hm0, _, _, hb3⟩ := hJ 0 w h0
  have hsml := hm0.small
  refine ⟨_, hb3.cell h4, ?_⟩
  refine loop_rule cx_ok (fun i W => i ≤ n ∧ J i W) (fun i : Nat => [(0, .func (.yield l) #[] #[]), (1, .pointer (some ⟨b3, 0, none⟩)), (2, .pointer (some ⟨b2, 0, none⟩)), (9, .int .i64 n), (10, .int .i64 i)]) (fun i => n - i) 0 ⟨rfl, rfl, rfl, rfl, rfl, trivial⟩ ⟨by omega, h0⟩ ?_
  rintro i W ⟨hi, hJi⟩
  refine ⟨fun hlt => ?_, fun hge => ?_⟩
  · have hin : i < n := by omega
    have hir : from_ + i < rows.length := by omega
    obtain ⟨r, hr⟩ : ∃ r, rows[from_ + i]? = some r := ⟨_, List.getElem?_eq_getElem hir⟩
    intro b5 W1 n5
    have e5 := n5.num; have z5 := n5.size
    have hJ1 := hS i W W1 hJi n5.tr
    obtain ⟨o, ho⟩ : ∃ o, o = shr r := ⟨_, rfl⟩
    have hl8 : (optCells o).length = 8 := by
      obtain ⟨hm, _⟩ := hJ i W hJi
      have hok := hm.ok r (List.mem_of_getElem? hr)
      rcases o with _ | ws
      · rfl
      · exact wcells_len (hok.shows ho.symm)
    -- the call of yield
    refine loop_rule cx_ok (fun k W2 => k ≤ 8 ∧ Tr [] W W2 ∧ Blk W2 b5 (wcells (part8 o k)) 46 ∧ (o = none → k = 0)) (fun k : Nat => [(0, .func (.yield l) #[] #[]), (1, .pointer (some ⟨b3, 0, none⟩)), (2, .pointer (some ⟨b2, 0, none⟩)), (9, .int .i64 n), (10, .int .i64 i), (4, .int .i64 i), (5, .pointer (some ⟨b5, 0, none⟩)), (6, .int .i64 0), (13, .int .i64 k)]) (fun k => 8 - k) 0
      ⟨rfl, rfl, rfl, rfl, rfl, rfl, rfl, rfl, rfl, trivial⟩ ⟨by omega, n5.tr, by rcases o with _ | ws <;> exact n5.blk, fun _ => rfl⟩ ?_
    rintro k W2 ⟨hk, t2, B5, hok0⟩
    have hJ2 := hS i W W2 hJi t2
    obtain ⟨hm2, hg2, C2, C3⟩ := hJ i W2 hJ2
    have hmok := hm2.ok r (List.mem_of_getElem? hr)
    refine ⟨fun hk8 => ?_, fun hk8 => ?_⟩
    · have hk8' : k < 8 := by omega
      refine ⟨_, C2.cell rfl, _, C3.cell h3, ((from_ + i : Nat) : Int), by rw [w64 (by omega)]; omega, ((8 * (from_ + i) : Nat) : Int), by rw [w64 (by omega)]; omega, ((8 * (from_ + i) + k : Nat) : Int), by rw [w64 (by omega)]; omega, ?_⟩
      refine call (Load_calls hm2 hg2 (from_ + i) k hk8' hr) ?_
      rintro v W3 ⟨hv, t3⟩
      rw [show r.1.shows r.1.pend.length = o from ho.symm] at hv
      have B5' := B5.ext t3
      rcases o with _ | ws
      · subst hv
        refine ⟨k, rfl, hk8', _, _, B5', by show 0 + k * 1 < 8; omega, rfl, fun W4 u4 => ?_⟩
        refine ⟨fun h => absurd h (by decide), fun _ => ?_⟩
        have B4 : Blk W4 b5 (wcells zeros8) 46 := by
          have := u4.blk
          have e : (wcells (part8 none k)).set (0 + k * 1) (.int .i64 0) = wcells zeros8 := by
            rw [show 0 + k * 1 = k by omega]
            have : ∀ k, k < 8 → (wcells zeros8).set k (.int .i64 0) = wcells zeros8 := by
              intro k hk
              rcases k with _ | _ | _ | _ | _ | _ | _ | _ | k <;> first | rfl | omega
            exact this k hk8'
          rw [← e]; exact this
        have t4 : Tr [] W W4 := u4.ext (t2.ext t3) (by omega)
        refine ⟨_, B4.all, rfl, ?_⟩
        have hyy := hy i r W4 hin hr (hS i W W4 hJi t4)
        rw [← ho] at hyy
        refine hyy.imp ?_
        rintro v W5 (⟨rfl, hJ5⟩ | ⟨rfl, hX⟩)
        · refine ⟨((i + 1 : Nat) : Int), by rw [w64 (by omega)]; omega, ?_⟩
          exact ⟨rfl, i + 1, ⟨rfl, rfl, rfl, rfl, rfl, trivial⟩, ⟨by omega, hJ5⟩, by omega⟩
        · exact .inr hX
      · subst hv
        have h8 := hmok.shows ho.symm
        obtain ⟨x, hx, hx40, hgd, hxc⟩ := h8.at hk8'
        have hp8 : (part8 (some ws) k).length = 8 := by simp [part8, h8.len, zeros8]; omega
        refine ⟨k, rfl, hk8', _, _, B5', by rw [show (wcells (part8 (some ws) k)).length = 8 by simp [wcells, hp8]]; show 0 + k * 1 < 8; omega, rfl, fun W4 u4 => ?_⟩
        refine ⟨fun _ => ?_, fun h => absurd rfl h⟩
        have B4 : Blk W4 b5 ((wcells (part8 (some ws) k)).set (0 + k * 1) (.int .i64 (ws.getD k 0 : Nat))) 46 := u4.blk
        rw [show 0 + k * 1 = k by omega, ← wcells_set, show (part8 (some ws) k).set k (ws.getD k 0) = part8 (some ws) (k + 1) from by
          have hlk : k < ws.length := by rw [h8.len]; exact hk8'
          have hx' : ws[k] = x := by have := (List.getElem?_eq_some_iff.1 hx).2; exact this
          unfold part8
          simp only
          rw [hgd, List.set_append, if_neg (by simp; omega), List.length_take, Nat.min_eq_left (by omega), Nat.sub_self, List.take_succ_eq_append_getElem hlk, hx', List.drop_eq_getElem_cons (l := zeros8) (i := k) hk8', List.set_cons_zero]
          simp] at B4
        have t4 : Tr [] W W4 := u4.ext (t2.ext t3) (by omega)
        refine ⟨((k + 1 : Nat) : Int), by rw [w64 (by omega)]; omega, ?_⟩
        exact ⟨rfl, k + 1, ⟨rfl, rfl, rfl, rfl, rfl, rfl, rfl, rfl, rfl, trivial⟩, ⟨by omega, t4, B4, fun h => by cases h⟩, by omega⟩
    · obtain rfl : k = 8 := by omega
      rcases o with _ | ws
      · exact absurd (hok0 rfl) (by decide)
      · have h8 := hmok.shows ho.symm
        have hpe : part8 (some ws) 8 = ws := by
          unfold part8
          simp only
          rw [List.take_of_length_le (by rw [h8.len]; exact Nat.le_refl _)]
          simp [zeros8]
        rw [hpe] at B5
        refine ⟨_, B5.all, wcells_len h8, ?_⟩
        have hyy := hy i r W2 hin hr hJ2
        rw [← ho] at hyy
        refine hyy.imp ?_
        rintro v W5 (⟨rfl, hJ5⟩ | ⟨rfl, hX⟩)
        · refine ⟨((i + 1 : Nat) : Int), by rw [w64 (by omega)]; omega, ?_⟩
          exact ⟨rfl, i + 1, ⟨rfl, rfl, rfl, rfl, rfl, trivial⟩, ⟨by omega, hJ5⟩, by omega⟩
        · exact .inr hX
  · obtain rfl : i = n := by omega
    exact .inl hJi

end

end Go.Proofs.YtlfolinjajjgjaaDoor

/- intent.Read. -/
namespace Go.Proofs.YtlfolinjajjgjaaDoor
open Go.E

def zcells (z : Sl × Value) : List Value := [.int .i64 (z.1.slot : Nat), .int .i64 (z.1.owner : Nat), .int .i64 (z.1.stamp : Nat), z.2]
def ownZ (z : Sl × Value) : List Nat := z.2.ownBlock.toList
def sblocks (v : Value) (Z : List (Sl × Value)) : List Nat := v.ownBlock.toList ++ Z.flatMap ownZ

/-- A list of slots. -/
structure SlW (w : World) (v : Value) (Z : List (Sl × Value)) : Prop where
  row : Row w 54 4 v Z.length (Z.flatMap zcells)
  blk : ∀ z ∈ Z, Row w 3 1 z.2 z.1.blocks.length (icells z.1.blocks)
  ne : ∀ b, v.ownBlock = some b → ∀ z ∈ Z, z.2.ownBlock ≠ some b

theorem in_sv {v : Value} {Z : List (Sl × Value)} {b : Nat} (h : v.ownBlock = some b) : b ∈ sblocks v Z := by simp [sblocks, h]
theorem in_sz {v : Value} {Z : List (Sl × Value)} {z : Sl × Value} (hz : z ∈ Z) {b : Nat} (h : z.2.ownBlock = some b) : b ∈ sblocks v Z := by
  unfold sblocks
  exact List.mem_append_right _ (List.mem_flatMap.2 ⟨z, hz, by simp [ownZ, h]⟩)

theorem SlW.tr {S : List Nat} {w w' : World} {v : Value} {Z : List (Sl × Value)} (h : SlW w v Z) (t : Tr S w w') (hS : ∀ b ∈ S, b ∉ sblocks v Z) : SlW w' v Z :=
  ⟨Row.tr h.row t fun b hb hm => hS b hm (in_sv hb), fun z hz => Row.tr (h.blk z hz) t fun b hb hm => hS b hm (in_sz hz hb), h.ne⟩
theorem SlW.ext {w w' : World} {v : Value} {Z : List (Sl × Value)} (h : SlW w v Z) (t : Tr [] w w') : SlW w' v Z := h.tr t (by simp)
theorem SlW.lt {w : World} {v : Value} {Z : List (Sl × Value)} (h : SlW w v Z) : ∀ b ∈ sblocks v Z, b < w.heap.size := by
  intro b hb
  simp only [sblocks, List.mem_append, Option.mem_toList, List.mem_flatMap, ownZ] at hb
  rcases hb with hb | ⟨z, hz, hb⟩
  · exact Row.lt h.row hb
  · exact Row.lt (h.blk z hz) hb
theorem SlW.nil (w : World) : SlW w (.slice none 0 0) [] := ⟨⟨by simp, .inl ⟨rfl, rfl⟩⟩, by simp, by simp⟩

theorem SlW.snoc {w w' : World} {v v' : Value} {Z : List (Sl × Value)} {z : Sl × Value} (h : SlW w v Z) (hz : Row w 3 1 z.2 z.1.blocks.length (icells z.1.blocks)) (hzn : ∀ b, z.2.ownBlock = some b → v.ownBlock ≠ some b)
    (hr : Row w' 54 4 v' (Z.length + 1) (Z.flatMap zcells ++ zcells z)) (t : Tr v.ownBlock.toList w w') (hat : v'.ownBlock = v.ownBlock ∨ v'.ownBlock = some w.heap.size) : SlW w' v' (Z ++ [z]) := by
  have hv : ∀ b, b ∈ v.ownBlock.toList → v.ownBlock = some b := fun b hb => by simpa using hb
  refine ⟨by simpa using hr, fun x hx => ?_, fun b hb x hx ho => ?_⟩
  · rcases List.mem_append.1 hx with hx | hx
    · exact Row.tr (h.blk x hx) t fun b hb hm => h.ne b (hv b hm) x hx hb
    · obtain rfl : x = z := by simpa using hx
      exact Row.tr hz t fun b hb hm => hzn b hb (hv b hm)
  · rcases List.mem_append.1 hx with hx | hx
    · rcases hat with e | e
      · exact h.ne b (e ▸ hb) x hx ho
      · have := Row.lt (h.blk x hx) ho
        rw [e] at hb
        have := Option.some.inj hb
        omega
    · obtain rfl : x = z := by simpa using hx
      rcases hat with e | e
      · exact hzn b ho (e ▸ hb)
      · have := Row.lt hz ho
        rw [e] at hb
        have := Option.some.inj hb
        omega

theorem idx_zero : ∀ xs : List Nat, idxOf xs 0 = if (xs.takeWhile (fun x => x != 0)).length < xs.length then (((xs.takeWhile (fun x => x != 0)).length : Nat) : Int) else -1 := by
  intro xs
  have key : ∀ xs : List Nat, xs.findIdx? (fun x : Nat => (0 : Int) == (x : Int)) = if (xs.takeWhile (fun x => x != 0)).length < xs.length then some (xs.takeWhile (fun x => x != 0)).length else none := by
    intro xs
    induction xs with
    | nil => simp
    | cons x r ih =>
      rw [List.findIdx?_cons]
      by_cases hx : x = 0
      · subst hx; simp
      · have h1 : ((0 : Int) == (x : Int)) = false := by simp; omega
        have h2 : (x != 0) = true := by simpa using hx
        rw [h1, List.takeWhile_cons, h2, ih]
        simp only [Bool.false_eq_true, if_false, if_true, List.length_cons, Nat.add_lt_add_iff_right]
        split <;> simp
  unfold idxOf
  rw [key]
  split
  · rename_i i hi
    split at hi
    · rename_i h
      rw [if_pos h]
      obtain rfl := Option.some.inj hi
      rfl
    · cases hi
  · rename_i hi
    split at hi
    · cases hi
    · rename_i h; rw [if_neg h]

theorem blocks_le {ws : List Nat} (h8 : ws.length = 8) : (blocksOf ws).length ≤ 6 := by
  have := (List.takeWhile_sublist (l := ws.drop 2) (fun x => x != 0)).length_le
  unfold blocksOf
  rw [List.length_drop] at this
  omega

theorem blocks_get {ws : List Nat} {j x : Nat} (h : (blocksOf ws)[j]? = some x) : ws[2 + j]? = some x := by
  have hp := List.takeWhile_prefix (l := ws.drop 2) (fun x => x != 0)
  obtain ⟨t, ht⟩ := hp
  have : (ws.drop 2)[j]? = some x := by
    have ht' : blocksOf ws ++ t = ws.drop 2 := ht
    rw [← ht', List.getElem?_append_left (List.getElem?_eq_some_iff.1 h).1]; exact h
  rw [List.getElem?_drop] at this
  exact this

section
variable {w : World} {p bl bm : Nat} {rows : List (Ln × Value)} {evv : Value} {span nev : Nat}

def shf (rows : List (Ln × Value)) (from_ i : Nat) : Option (List Nat) := (rows[from_ + i]?).bind shr

/-- What Read returns. -/
def ReadQ (w w' : World) (o : Option (List Sl)) (v : Value) : Prop :=
  match o with
  | some S => ∃ sv Z, v = .tuple #[sv, .int .i64 0] ∧ SlW w' sv Z ∧ Z.map (·.1) = S ∧ ∀ b ∈ sblocks sv Z, w.heap.size ≤ b
  | none => v = .tuple #[.slice none 0 0, .int .i64 9]

set_option maxHeartbeats 2000000 in
theorem Read_calls (h : MemX w p bl bm rows evv span nev) (hg : Gl w) (lc : List Value) (from_ n : Nat) (hlc : lc.length = 8) (hl1 : lc.all E.one = true) (h3 : lc[3]? = some (.int .i64 (from_ : Nat))) (h4 : lc[4]? = some (.int .i64 (n : Nat))) (hfit : from_ + n ≤ rows.length) :
    Calls cx.P 11 #[.pointer (some ⟨p, 0, none⟩), .agg lc.toArray] w (Ret fun v w' => Tr [] w w' ∧ ReadQ w w' (rdTo (shf rows from_) n) v) := by
  have hsml := h.small
  refine calls_body_m cx_ok (args := [.pointer (some ⟨p, 0, none⟩), .agg lc.toArray]) Tryd.func11 rfl 42 rfl rfl [.cell 4 29, .cell 5 32] rfl ?_
  intro b3 w1 n1 b4 w2 n2 b5 w3 n3 b6 w4 n4 b7 w5 n5
  have e1 := n1.num; have e2 := n2.num; have e3 := n3.num; have e4 := n4.num; have e5 := n5.num
  have z1 := n1.size; have z2 := n2.size; have z3 := n3.size; have z4 := n4.size; have z5 := n5.size
  refine ⟨_, _, n5.blk, by decide, rfl, fun w6 u6 => ?_⟩
  have z6 := u6.size
  have t5 : Tr [] w w5 := (((n1.tr.ext n2.tr).ext n3.tr).ext n4.tr).ext n5.tr
  have t6 : Tr [] w w6 := u6.ext t5 (by omega)
  have t46 : Tr [] w4 w6 := u6.ext n5.tr (by omega)
  have B3 : Blk w6 b3 lc 27 := (show Blk w1 b3 lc _ from n1.blk).ext (((n2.tr.ext n3.tr).ext n4.tr).ext t46)
  have B4 : Blk w6 b4 [.slice none 0 0] 29 := (show Blk w2 b4 _ _ from n2.blk).ext ((n3.tr.ext n4.tr).ext t46)
  have B5 : Blk w6 b5 [.int .i64 0] 32 := (show Blk w3 b5 _ _ from n3.blk).ext (n4.tr.ext t46)
  have B6 : Blk w6 b6 [.slice none 0 0] 29 := (show Blk w4 b6 _ _ from n4.blk).ext t46
  have B7 : Blk w6 b7 [.int .i64 0] 3 := u6.blk
  refine ⟨lc, B3.all, hlc, ?_⟩
  refine call (lines_calls w6 p lc) ?_
  rintro _ w7 ⟨c2, c3, rfl, C2, C3, t7, hc2, hc3⟩
  refine range_rule cx_ok (first := []) (cap := [.pointer (some ⟨c3, 0, none⟩), .pointer (some ⟨c2, 0, none⟩)]) (g := 57) rfl rfl ?_
  intro fn tmps bD l wa wb na nb hag
  have ea := na.num; have eb := nb.num; have za := na.size; have zb := nb.size; have z7 := t7.size
  have tb7 : Tr [] w7 wb := na.tr.ext nb.tr
  have tb : Tr [] w wb := (t6.ext t7).ext tb7
  have hbD : wb.heap[bD]? = some (.deferred (some [])) := nb.tr.get na.get (by simp)
  have D4 := (B4.ext t7).ext tb7
  have D5 := (B5.ext t7).ext tb7
  have D6 := (B6.ext t7).ext tb7
  have D7 := (B7.ext t7).ext tb7
  have E2 := C2.ext tb7
  have E3 := C3.ext tb7
  have hmb := h.ext tb
  have hgb := hg.ext tb
  have hfl := h.foot_lt
  have hc2l := C2.lt; have hc3l := C3.lt
  -- what holds at the head of a round
  let J : Nat → World → Prop := fun i W => Tr [l, b6, b7] wb W ∧ W.heap[l]? = wb.heap[l]? ∧ ∃ S sv Z, rdTo (shf rows from_) i = some S ∧ Blk W b6 [sv] 29 ∧ Blk W b7 [.int .i64 (i : Nat)] 3 ∧ SlW W sv Z ∧ Z.map (·.1) = S ∧ ∀ b ∈ sblocks sv Z, wb.heap.size ≤ b
  let X : World → Prop := fun W => rdTo (shf rows from_) n = none ∧ Tr [l, b4, b5, b6, b7] wb W ∧ Blk W b4 [.slice none 0 0] 29 ∧ Blk W b5 [.int .i64 9] 32 ∧ ∃ lp, W.heap[l]? = some (.loop lp) ∧ lp.state = .done ∧ lp.pending = some .ret
  have hJmem : ∀ i W, J i W → MemX W p bl bm rows evv span nev ∧ Gl W ∧ Blk W c2 [.pointer (some ⟨p, 0, none⟩)] 23 ∧ Blk W c3 lc 27 := by
    rintro i W ⟨tJ, _⟩
    refine ⟨hmb.tr tJ fun b hb hm => ?_, hgb.tr tJ fun b hb => ?_, E2.tr tJ (by simp; omega), E3.tr tJ (by simp; omega)⟩
    · have := hfl b hm
      simp at hb
      omega
    · have := hg.size
      simp at hb
      omega
  have hJS : ∀ i W W', J i W → Tr [] W W' → J i W' := by
    rintro i W W' ⟨tJ, hlJ, S, sv, Z, hS, K6, K7, hZ, hZS, hb⟩ t
    have zJ := tJ.size
    refine ⟨tJ.trans t (fun _ h => h) (fun _ h _ => by cases h), ?_, S, sv, Z, hS, K6.ext t, K7.ext t, hZ.ext t, hZS, hb⟩
    rw [t.keep l (by omega) (by simp), hlJ]
  refine call (lines1_calls (p := p) (bl := bl) (bm := bm) (rows := rows) (evv := evv) (span := span) (nev := nev) l lc from_ n h3 h4 hfit c3 c2 J X hJmem hJS ?_ wb ?_) ?_
  · rintro i r W hi hr hJi
    have hJi' := hJi
    obtain ⟨hm, _⟩ := hJmem i W hJi'
    obtain ⟨tJ, hlJ, S, sv, Z, hS, K6, K7, hZ, hZS, hbs⟩ := hJi
    have zW := tJ.size
    have hmok := hm.ok r (List.mem_of_getElem? hr)
    have hf : shf rows from_ i = shr r := by unfold shf; rw [hr]; rfl
    obtain ⟨o, ho⟩ : ∃ o, o = shr r := ⟨_, rfl⟩
    rw [← ho] at hf ⊢
    have hl8 : (optCells o).length = 8 := by
      rcases o with _ | ws
      · rfl
      · exact wcells_len (hmok.shows ho.symm)
    have hone : (optCells o).all E.one = true := by
      rcases o with _ | ws
      · rfl
      · exact wcells_one _
    refine round_rule cx_ok [14, 15] (hlJ.trans nb.get) rfl rfl rfl hag rfl ?_
    intro b8 W1 m1
    have em := m1.num; have zm := m1.size
    refine ⟨_, _, m1.blk, hl8, by show 0 + 8 ≤ 8; decide, hone, ?_⟩
    intro W2 v2
    have zv := v2.size
    have F8 : Blk W2 b8 (optCells o) 46 := Upd.whole v2 rfl hl8
    have hl2 : W2.heap[l]? = wb.heap[l]? := by
      rw [v2.tr.keep l (by omega) (by simp; omega), m1.tr.keep l (by omega) (by simp), hlJ]
    refine ⟨hl2.trans nb.get, ?_⟩
    intro W3 v3
    have zv3 := v3.size
    have tW2 : Tr [] W W2 := v2.ext m1.tr (by omega)
    have tW3 : Tr [l] W W3 := tW2.of_ext.same v3.tr
    have t3 : Tr [l, b6, b7] wb W3 := (tJ.trans tW2 (fun _ h => h) (fun _ h _ => by cases h)).trans v3.tr (fun _ h => h) (fun c h _ => by simp at h; simp [h])
    have F8 := F8.tr v3.tr (by simp; omega)
    have K6' := K6.tr tW3 (by simp; omega)
    have K7' := K7.tr tW3 (by simp; omega)
    have hZ' : SlW W3 sv Z := hZ.tr tW3 fun b hb hm => by have := hbs b hm; simp at hb; omega
    -- the end of a round
    have fin : ∀ (W4 : World) (S' : List Sl) (sv' : Value) (Z' : List (Sl × Value)), Tr [l, b6, b7] wb W4 → W4.heap[l]? = W3.heap[l]? → rdTo (shf rows from_) (i + 1) = some S' → Blk W4 b6 [sv'] 29 → Blk W4 b7 [.int .i64 (i : Nat)] 3 → SlW W4 sv' Z' → Z'.map (·.1) = S' → (∀ b ∈ sblocks sv' Z', wb.heap.size ≤ b) →
        W4.cell? ⟨b7, 0, none⟩ = some (.int .i64 (i : Nat)) ∧ ∃ c, IntKind.i64.wrap ((i : Int) + 1) = c ∧ ∃ A T, Blk W4 b7 A T ∧ 0 < A.length ∧ E.one (.int .i64 c) = true ∧ ∀ W5, Upd W4 b7 (.cells (A.set 0 (.int .i64 c)).toArray T) W5 →
          ∃ lp, W5.heap[l]? = some (.loop lp) ∧ ∀ W6, Upd W5 l (.loop { lp with state := .ready, pending := none }) W6 → (Value.bool true = .bool true ∧ J (i + 1) W6) ∨ (Value.bool true = .bool false ∧ X W6) := by
      intro W4 S' sv' Z' t4 hl4 hS' G6 G7 hZ4 hZS' hb4
      refine ⟨G7.cell rfl, ((i + 1 : Nat) : Int), by rw [w64 (by omega)]; omega, _, _, G7, by show 0 < 1; decide, rfl, fun W5 u5 => ?_⟩
      have z4 := t4.size; have z5' := u5.size
      refine ⟨_, u5.tr.get (hl4.trans v3.get) (by simp; omega), fun W6 u6' => .inl ⟨rfl, ?_⟩⟩
      refine ⟨(t4.trans u5.tr (fun _ h => h) (fun c h _ => by simp at h; simp [h])).trans u6'.tr (fun _ h => h) (fun c h _ => by simp at h; simp [h]), ?_, S', sv', Z', hS', (G6.tr u5.tr (by simp; omega)).tr u6'.tr (by simp; omega), u5.blk.tr u6'.tr (by simp; omega), (hZ4.tr u5.tr fun b hb hm => ?_).tr u6'.tr (fun b hb hm => ?_), hZS', hb4⟩
      · rw [u6'.get, nb.get]
      · have := hb4 b hm; simp at hb; omega
      · have := hb4 b hm; simp at hb; omega
    rcases o with _ | ws
    · -- a line that is rotten
      refine ⟨fun h => absurd h (by decide), fun _ => ?_⟩
      have G4 := D4.tr t3 (by simp; omega)
      have G5 := D5.tr t3 (by simp; omega)
      refine ⟨_, _, G4, by show 0 < 1; decide, rfl, fun W4 u4 => ?_⟩
      refine ⟨_, _, G5.tr u4.tr (by simp; omega), by show 0 < 1; decide, rfl, fun W5 u5 => ?_⟩
      have z4 := u4.size; have z5' := u5.size
      refine ⟨_, u5.tr.get (u4.tr.get v3.get (by simp; omega)) (by simp; omega), fun W6 u6' => .inr ⟨rfl, rdTo_none hf n hi, ?_, ?_, ?_, _, u6'.get, rfl, rfl⟩⟩
      · have q4 : Tr [l, b4, b5, b6, b7] wb W4 := t3.trans u4.tr (fun c h => by simp at h ⊢; omega) (fun c h _ => by simp at h; simp [h])
        have q5 : Tr [l, b4, b5, b6, b7] wb W5 := q4.trans u5.tr (fun _ h => h) (fun c h _ => by simp at h; simp [h])
        exact q5.trans u6'.tr (fun _ h => h) (fun c h _ => by simp at h; simp [h])
      · exact (u4.blk.tr u5.tr (by simp; omega)).tr u6'.tr (by simp; omega)
      · exact u5.blk.tr u6'.tr (by simp; omega)
    · have h8 := hmok.shows ho.symm
      obtain ⟨x0, hx0, hx040, hg0, hc0⟩ := h8.at (k := 0) (by omega)
      obtain ⟨x1, hx1, hx140, hg1, hc1⟩ := h8.at (k := 1) (by omega)
      have hrd : rdTo (shf rows from_) (i + 1) = some (S ++ slotOf i ws) := by
        show (match rdTo (shf rows from_) i, shf rows from_ i with | some S, some ws => some (S ++ slotOf i ws) | _, _ => none) = _
        rw [hS, hf]
      refine ⟨fun _ => ?_, fun h => absurd rfl h⟩
      refine ⟨0, rfl, by decide, _, F8.cell hc0, fun hz => ?_, fun hnz => ?_⟩
      · -- a free slot
        have hz' : x0 = 0 := by omega
        refine ⟨_, fin W3 _ sv Z t3 rfl hrd K6' K7' hZ' ?_ hbs⟩
        rw [hZS, slotOf, if_pos (by rw [hg0]; exact hz')]
        simp
      · have hz' : x0 ≠ 0 := by omega
        have hlws := h8.len
        obtain ⟨xs, hxs⟩ : ∃ xs, xs = ws.drop 2 := ⟨_, rfl⟩
        have hxl : xs.length = 6 := by rw [hxs, List.length_drop, hlws]
        have hcx : Cells W3 b8 2 (icells xs) := fun j v hv => by
          have : (wcells ws)[2 + j]? = some v := by
            rw [hxs] at hv
            unfold icells at hv
            rw [List.getElem?_map, List.getElem?_drop] at hv
            unfold wcells
            rw [List.getElem?_map]
            exact hv
          exact F8.cell this
        refine ⟨2, 8, rfl, rfl, by decide, by decide, ?_⟩
        refine call (Index_calls W3 xs (.slice (some ⟨b8, 2, none⟩) 6 6) ⟨_, _, by rw [hxl], by omega, .inr ⟨b8, 2, rfl, hcx⟩⟩ (by omega) 0) ?_
        rintro _ _ ⟨rfl, rfl⟩
        obtain ⟨nn, hnn⟩ : ∃ nn, nn = (blocksOf ws).length := ⟨_, rfl⟩
        have hnn6 : nn ≤ 6 := by rw [hnn]; exact blocks_le hlws
        have hidx : idxOf xs 0 = if nn < 6 then (nn : Int) else -1 := by
          rw [idx_zero, hxl, hnn, hxs]; rfl
        refine join (c := cx) (r := some l) (N := 42) (e0 := [(6, .pointer (some ⟨b6, 0, none⟩)), (7, .pointer (some ⟨b7, 0, none⟩)), (8, .pointer (some ⟨b8, 0, none⟩)), (10, .int .i64 (nn : Nat))]) (ds := []) (w := W3)
          (fun key => ⟨fun hneg => G.sub ?_ key, fun hpos => G.sub ?_ key⟩) ?_
        · have hn6 : nn = 6 := by
            rw [hidx] at hneg
            split at hneg <;> omega
          refine ⟨rfl, rfl, rfl, ?_, trivial⟩
          show some (Value.int .i64 6) = some (.int .i64 (nn : Nat))
          rw [hn6]
          rfl
        · have hix : idxOf xs 0 = (nn : Int) := by
            rw [hidx] at hpos ⊢
            split at hpos
            · rw [if_pos (by assumption)]
            · omega
          refine ⟨rfl, rfl, rfl, ?_, trivial⟩
          show some (Value.int .i64 (idxOf xs 0)) = some (.int .i64 (nn : Nat))
          rw [hix]
        have hsvn : ∀ b, sv.ownBlock = some b → wb.heap.size ≤ b ∧ b < W.heap.size := fun b hb => ⟨hbs b (in_sv hb), hZ.lt b (in_sv hb)⟩
        have hsvS : ∀ b ∈ sv.ownBlock.toList, wb.heap.size ≤ b ∧ b < W.heap.size := fun b hb => hsvn b (by simpa using hb)
        have nb6 : b6 ∉ sv.ownBlock.toList := fun hm => by have := hsvS _ hm; omega
        have nb7 : b7 ∉ sv.ownBlock.toList := fun hm => by have := hsvS _ hm; omega
        have nb8 : b8 ∉ sv.ownBlock.toList := fun hm => by have := hsvS _ hm; omega
        have nl : l ∉ sv.ownBlock.toList := fun hm => by have := hsvS _ hm; omega
        refine draw_rule cx_ok sv.ownBlock.toList (Plan.takes [0, 1, 2, 3, 4, 5, 6, 7, 8] (.one true 9 (Plan.takes [10] (.one true 11 (.one true 12 (.one false 13 .done)))))) (by kernel_rfl) ?_
        intro W4 d
        have zd := d.tr.size
        refine ⟨_, fun w' t => t.cell (K6'.cell rfl) nb6, _, fun w' t => t.cell (K7'.cell rfl) nb7, 0, rfl, by decide, _, fun w' t => t.cell (F8.cell hc0) nb8, 1, rfl, by decide, _, fun w' t => t.cell (F8.cell hc1) nb8, ((2 + nn : Nat) : Int), by rw [w64 (by omega)]; omega, 2, 2 + nn, rfl, rfl, by omega, by show 2 + nn ≤ 8; omega, ?_⟩
        refine ⟨?_, trivial⟩
        have hcb : Cells W4 b8 2 (icells (blocksOf ws)) := fun j v hv => by
          unfold icells at hv
          rw [List.getElem?_map] at hv
          obtain ⟨x, hx, rfl⟩ := Option.map_eq_some_iff.1 hv
          have := blocks_get hx
          exact (F8.ext d.tr).cell (show (wcells ws)[2 + j]? = _ by unfold wcells; rw [List.getElem?_map, this]; rfl)
        refine call (clone_int_calls W4 b8 2 (2 + nn - 2) 6 (icells (blocksOf ws)) (by rw [icells_len, ← hnn]; omega) hcb (icells_one _) (by omega)) ?_
        rintro bv W5 ⟨hbv, t5', bb, hbb, hbbf⟩
        have z5' := t5'.size
        have q5 : Tr [] W3 W5 := d.tr.ext t5'
        refine ⟨q5.of_ext, ?_⟩
        obtain ⟨av, cv, hbve⟩ := Row.slice hbv
        have hbv' : Row W5 3 1 bv (blocksOf ws).length (icells (blocksOf ws)) := by
          have : 2 + nn - 2 = (blocksOf ws).length := by omega
          rw [← this]; exact hbv
        subst hbve
        refine ⟨_, rfl, ?_⟩
        refine ⟨⟨_, rfl, fun b11 W6 m6 => ⟨(q5.ext m6.tr).of_ext, ?_⟩⟩, trivial⟩
        have e6 := m6.num; have z6' := m6.size
        have q6 : Tr [] W3 W6 := q5.ext m6.tr
        obtain ⟨zn, hzn⟩ : ∃ zn : Sl × Value, zn = (⟨i, x0, x1, blocksOf ws⟩, .slice av (2 + nn - 2) cv) := ⟨_, rfl⟩
        have hcz : Cells W6 b11 0 (zcells zn) := by rw [hzn]; exact m6.blk.all
        refine ⟨?_, trivial⟩
        refine append_own cx_ok (x := ⟨1, 24, false, [.slice none 0 0], .slice 54⟩) rfl rfl rfl (by decide) (hZ'.ext q6).row b11 0 1 1 (zcells zn) rfl hcz (by rw [hzn]; rfl) ?_ (by decide) ?_
        · have : Z.length = S.length := by rw [← hZS]; simp
          have hle : ∀ k, k ≤ n → ∀ S, rdTo (shf rows from_) k = some S → S.length ≤ k := by
            intro k
            induction k with
            | zero => intro _ S hS; simp [rdTo] at hS; subst hS; simp
            | succ k ih =>
              intro hk S hS
              unfold rdTo at hS
              split at hS
              · rename_i S1 ws1 h1 h2
                obtain rfl := Option.some.inj hS
                have := ih (by omega) S1 h1
                have : (slotOf k ws1).length ≤ 1 := by unfold slotOf; split <;> simp
                simp only [List.length_append]
                omega
              · cases hS
          have := hle i (by omega) S hS
          omega
        intro v' W7 hv' t7' hat _
        have z7' := t7'.size
        have q7 : Tr sv.ownBlock.toList W3 W7 := q6.of_ext.trans t7' (fun _ h => h) (fun _ h _ => h)
        refine ⟨q7, ?_⟩
        have G6 := K6'.tr q7 nb6
        refine ⟨⟨_, _, G6, by show 0 < 1; decide, Row.one hv', fun W8 u8 => ?_⟩, trivial⟩
        have z8 := u8.size
        have hbl : ∀ b, zn.2.ownBlock = some b → W4.heap.size ≤ b := fun b hb => by
          rw [hzn] at hb
          have : some bb = some b := hbb.symm.trans hb
          have := Option.some.inj this
          omega
        have hZ7 : SlW W7 v' (Z ++ [zn]) := (hZ'.ext q6).snoc (z := zn) (by rw [hzn]; exact Row.tr hbv' m6.tr (by simp)) (fun b hb ho' => by
          have := hbl b hb
          have := (hsvn b ho').2
          omega) hv' t7' hat
        have hbs7 : ∀ b ∈ sblocks v' (Z ++ [zn]), wb.heap.size ≤ b ∧ b ≠ b6 := fun b hb => by
          simp only [sblocks, List.mem_append, Option.mem_toList, List.flatMap_append, List.flatMap_cons, List.flatMap_nil, List.append_nil, ownZ] at hb
          have : wb.heap.size ≤ b := by
            rcases hb with hb | hb | hb
            · rcases hat with e | e
              · exact (hsvn b (e ▸ hb)).1
              · rw [e] at hb; have := Option.some.inj hb; omega
            · exact hbs b (List.mem_append_right _ hb)
            · have := hbl b hb
              omega
          exact ⟨this, by omega⟩
        have q8 : Tr [l, b6, b7] wb W8 := (t3.trans q7 (fun _ h => h) (fun c h hlt => by have := hsvS c h; omega)).trans u8.tr (fun _ h => h) (fun c h _ => by simp at h; simp [h])
        have hl8' : W8.heap[l]? = W3.heap[l]? := by
          rw [u8.tr.keep l (by omega) (by simp; omega), q7.keep l (by omega) nl]
        refine ⟨_, fin W8 _ v' (Z ++ [zn]) q8 hl8' hrd u8.blk ((K7'.tr q7 nb7).tr u8.tr (by simp; omega)) (hZ7.tr u8.tr fun b hb hm => ?_) ?_ fun b hb => (hbs7 b hb).1⟩
        · have := (hbs7 b hm).2
          simp at hb
          exact this hb
        · rw [List.map_append, hZS, slotOf, if_neg (by rw [hg0]; exact hz'), hg0, hg1, hzn]
          rfl
  · refine ⟨Tr.refl _ _, rfl, [], .slice none 0 0, [], rfl, D6, D7, SlW.nil _, rfl, ?_⟩
    intro b hb
    simp [sblocks, Value.ownBlock] at hb
  · rintro _ w8 (⟨tJ, hlJ, S, sv, Z, hS, K6, K7, hZ, hZS, hbs⟩ | ⟨hnone, tX, X4, X5, lp, hlp, hst, hpend⟩)
    · have z8 := tJ.size
      refine ⟨_, hlJ.trans nb.get, by simp, fun w9 u9 => ?_⟩
      have z9 := u9.size
      have t9 : Tr [l, b6, b7] wb w9 := tJ.trans u9.tr (fun _ h => h) (fun c h _ => by simp at h; simp [h])
      refine ⟨_, (K6.tr u9.tr (by simp; omega)).cell rfl, ?_⟩
      refine ⟨_, _, D4.tr t9 (by simp; omega), by show 0 < 1; decide, Row.one hZ.row, fun w10 u10 => ?_⟩
      refine ⟨_, _, (D5.tr t9 (by simp; omega)).tr u10.tr (by simp; omega), by show 0 < 1; decide, rfl, fun w11 u11 => ?_⟩
      have z10 := u10.size; have z11 := u11.size
      refine ⟨u11.tr.get (u10.tr.get (t9.get hbD (by simp; omega)) (by simp; omega)) (by simp; omega), fun w12 u12 => ?_⟩
      refine ⟨_, ((u10.blk.tr u11.tr (by simp; omega)).tr u12.tr (by simp; omega)).cell rfl, _, (u11.blk.tr u12.tr (by simp; omega)).cell rfl, ?_⟩
      have tt : Tr [] w w9 := tb.trans t9 (fun _ h => h) (fun c hc hlt => by simp at hc; omega)
      refine ⟨u12.ext (u11.ext (u10.ext tt (by omega)) (by omega)) (by omega), ?_⟩
      rw [hS]
      refine ⟨sv, Z, rfl, ?_, hZS, fun b hb => by have := hbs b hb; omega⟩
      refine (((hZ.tr u9.tr fun b hb hm => ?_).tr u10.tr fun b hb hm => ?_).tr u11.tr fun b hb hm => ?_).tr u12.tr fun b hb hm => ?_
      all_goals have := hbs b hm; simp at hb; omega
    · refine ⟨lp, hlp, by rw [hst]; simp, fun w9 u9 => ?_⟩
      rw [hpend]
      have zX := tX.size; have z9 := u9.size
      refine ⟨u9.tr.get (tX.get hbD (by simp; omega)) (by simp; omega), fun w12 u12 => ?_⟩
      refine ⟨_, ((X4.tr u9.tr (by simp; omega)).tr u12.tr (by simp; omega)).cell rfl, _, ((X5.tr u9.tr (by simp; omega)).tr u12.tr (by simp; omega)).cell rfl, ?_⟩
      have tt : Tr [] w w8 := tb.trans tX (fun _ h => h) (fun c hc hlt => by simp at hc; omega)
      refine ⟨u12.ext (u9.ext tt (by omega)) (by omega), ?_⟩
      rw [hnone]
      rfl

end

end Go.Proofs.YtlfolinjajjgjaaDoor

/- intent.set, on a memory of which nothing is pending. -/
namespace Go.Proofs.YtlfolinjajjgjaaDoor
open Go.E

def quiet (ws : List Nat) : Ln := ⟨ws, enc ws, [], 0⟩

theorem quiet_ok {ws : List Nat} (h : Line8 ws) : (quiet ws).Ok := ⟨h, enc_lt ws, by simp [quiet], by simp [quiet]⟩

/-- A memory of which nothing is pending, and whose codes are right. -/
def QMem (w : World) (p : Nat) (LS : List (List Nat)) (nev : Nat) (F : List Nat) : Prop := ∃ bl bm rows evv span, MemW w p bl bm rows evv span nev ∧ rows.map (·.1) = LS.map quiet ∧ F = foot p bl bm rows evv

theorem QMem.ext {w w' : World} {p : Nat} {LS : List (List Nat)} {nev : Nat} {F : List Nat} (h : QMem w p LS nev F) (t : Tr [] w w') : QMem w' p LS nev F := by
  obtain ⟨bl, bm, rows, evv, span, h1, h2, h3⟩ := h
  exact ⟨bl, bm, rows, evv, span, h1.ext t, h2, h3⟩

theorem QMem.lt {w : World} {p : Nat} {LS : List (List Nat)} {nev : Nat} {F : List Nat} (h : QMem w p LS nev F) : ∀ b ∈ F, b < w.heap.size := by
  obtain ⟨bl, bm, rows, evv, span, h1, h2, rfl⟩ := h
  exact h1.foot_lt
theorem QMem.ge {w : World} {p : Nat} {LS : List (List Nat)} {nev : Nat} {F : List Nat} (h : QMem w p LS nev F) : ∀ b ∈ F, 3 ≤ b := by
  obtain ⟨bl, bm, rows, evv, span, h1, h2, rfl⟩ := h
  exact h1.ge

theorem map_at {rows : List (Ln × Value)} {L : List Ln} (h : rows.map (·.1) = L) {i : Nat} {l : Ln} (hl : L[i]? = some l) : ∃ v, rows[i]? = some (l, v) := by
  rw [← h, List.getElem?_map] at hl
  obtain ⟨r, hr, rfl⟩ := Option.map_eq_some_iff.1 hl
  exact ⟨r.2, hr⟩

theorem QMem.line8 {w : World} {p : Nat} {LS : List (List Nat)} {nev : Nat} {F : List Nat} (h : QMem w p LS nev F) {i : Nat} {ws : List Nat} (hi : LS[i]? = some ws) : Line8 ws := by
  obtain ⟨bl, bm, rows, evv, span, h1, h2, rfl⟩ := h
  obtain ⟨v, hv⟩ := map_at h2 (i := i) (l := quiet ws) (by simp [hi])
  exact (h1.ok _ (List.mem_of_getElem? hv)).ws

theorem QMem.small {w : World} {p : Nat} {LS : List (List Nat)} {nev : Nat} {F : List Nat} (h : QMem w p LS nev F) : LS.length ≤ 4096 := by
  obtain ⟨bl, bm, rows, evv, span, h1, h2, rfl⟩ := h
  have := congrArg List.length h2
  simp only [List.length_map] at this
  have := h1.small
  omega

def pending (ws : List Nat) (ps : List (Nat × Nat)) : Ln := ⟨ws, enc ws, ps, 0⟩

theorem settle_quiet (ws : List Nat) : (quiet ws).settle (quiet ws).mark = quiet ws := by
  unfold Ln.settle
  exact if_pos rfl

theorem settle_pending (ws : List Nat) (ps : List (Nat × Nat)) : (pending ws ps).flush.settle (pending ws ps).flush.mark = quiet (lay ws ps) := by
  unfold Ln.settle
  split
  · rename_i h
    have : ps = [] := List.eq_nil_of_length_eq_zero h
    subst this
    rfl
  · have hs : (pending ws ps).flush.shown (pending ws ps).flush.mark = lay ws ps := by
      unfold Ln.shown Ln.shows
      show ((fix ws (enc ws)).map fun r => lay r.1 (ps.take ps.length)).getD zeros8 = _
      rw [fix_enc, List.take_length]
      rfl
    rw [hs]
    show Ln.mk (lay ws ps) (enc (lay ws ps)) (ps.drop ps.length) (ps.length - ps.length) = _
    simp [quiet]

section
variable {w : World}

structure SS where
  j : Nat
  rows : List (Ln × Value)
  evv : Value

set_option maxHeartbeats 1000000 in
theorem set_calls {p nev : Nat} {LS : List (List Nat)} {F : List Nat} (h : QMem w p LS nev F) (hg : Gl w) (lc : List Value) (from_ slot : Nat) (hlc : lc.length = 8) (h3 : lc[3]? = some (.int .i64 (from_ : Nat)))
    {ws : List Nat} (hws : LS[from_ + slot]? = some ws) (prs : List (Nat × Nat)) (hprs : ∀ q ∈ prs, q.1 < 8 ∧ q.2 < 2 ^ 40) (g o c : Nat) (hgc : Cells w g o (pcells prs)) (hgF : g ∉ F) (hgl : g < w.heap.size) (hpl : prs.length ≤ 4096) (hnev : nev + prs.length + 2 ≤ 549755813888) :
    Calls cx.P 50 #[.pointer (some ⟨p, 0, none⟩), .agg lc.toArray, .int .i64 (slot : Nat), .slice (some ⟨g, o, none⟩) prs.length c] w
      (Ret fun _ w' => ∃ F', QMem w' p (LS.set (from_ + slot) (lay ws prs)) (nev + prs.length + 2) F' ∧ Step w w' F F') := by
  obtain ⟨bl, bm, rows, evv, span, hm, hrows, rfl⟩ := h
  have hsml := hm.small
  have hi : from_ + slot < LS.length := (List.getElem?_eq_some_iff.1 hws).1
  have hlen : rows.length = LS.length := by have := congrArg List.length hrows; simpa using this
  obtain ⟨v0, hv0⟩ := map_at hrows (i := from_ + slot) (l := quiet ws) (by simp [hws])
  have h8 : Line8 ws := (hm.ok _ (List.mem_of_getElem? hv0)).ws
  refine calls_body_m cx_ok (args := [.pointer (some ⟨p, 0, none⟩), .agg lc.toArray, .int .i64 (slot : Nat), .slice (some ⟨g, o, none⟩) prs.length c]) Tryd.func50 rfl 34 rfl rfl [] rfl ?_
  intro b5 w1 n1
  have e1 := n1.num; have z1 := n1.size
  have B5 : Blk w1 b5 lc 27 := n1.blk
  refine ⟨_, B5.cell h3, ((from_ + slot : Nat) : Int), by rw [w64 (by omega)]; omega, ?_⟩
  have hm1 := hm.ext n1.tr
  refine loop_rule cx_ok (fun (s : SS) W => s.j ≤ prs.length ∧ MemW W p bl bm s.rows s.evv span (nev + s.j) ∧ s.rows.map (·.1) = (LS.map quiet).set (from_ + slot) (pending ws (prs.take s.j)) ∧ Step w W (foot p bl bm rows evv) (foot p bl bm s.rows s.evv))
    (fun s => [(0, .pointer (some ⟨p, 0, none⟩)), (8, .int .i64 (from_ + slot : Nat)), (18, .slice (some ⟨g, o, none⟩) prs.length c), (19, .int .i64 prs.length), (20, .int .i64 s.j)]) (fun s => prs.length - s.j) ⟨0, rows, evv⟩ ⟨rfl, rfl, rfl, rfl, rfl, trivial⟩
    ⟨by show 0 ≤ _; omega, hm1, ?_, ⟨n1.tr.of_ext, fun b hb => .inl hb⟩⟩ ?_
  · have : pending ws (prs.take 0) = quiet ws := by simp [pending, quiet]
    show rows.map (·.1) = (LS.map quiet).set (from_ + slot) (pending ws (prs.take 0))
    rw [this, hrows]
    apply List.ext_getElem?
    intro k
    rw [List.getElem?_set]
    split
    · rename_i hk
      subst hk
      have : LS[from_ + slot] = ws := (List.getElem?_eq_some_iff.1 hws).2
      simp [hi, this]
    · rfl
  rintro ⟨j, R, ev⟩ W ⟨hj, hmW, hR, hs⟩
  have gW : Gl W := hg.tr hs.tr fun b hb => hm.ge b hb
  have hj : j ≤ prs.length := hj
  have hset : ((LS.map quiet).set (from_ + slot) (pending ws (prs.take j)))[from_ + slot]? = some (pending ws (prs.take j)) := by simp [hi]
  obtain ⟨v, hv⟩ := map_at hR hset
  have hv : R[from_ + slot]? = some (pending ws (prs.take j), v) := hv
  have hmW : MemW W p bl bm R ev span (nev + j) := hmW
  refine ⟨fun hlt => ?_, fun hge => ?_⟩
  · have hjl : j < prs.length := by have : ((j : Nat) : Int) < (prs.length : Int) := hlt; omega
    have hq : prs[j]? = some prs[j] := List.getElem?_eq_getElem hjl
    obtain ⟨hc0, hc1⟩ := pcells_get hq
    have hqok := hprs _ (List.mem_of_getElem? hq)
    refine ⟨j, rfl, hjl, [.int .i64 (prs[j].1 : Nat), .int .i64 (prs[j].2 : Nat)], ?_, rfl, ?_⟩
    · intro x u hx
      refine hs.tr.cell ?_ hgF
      rcases x with _ | _ | x
      · simp only [List.getElem?_cons_zero, Option.some.injEq] at hx
        subst hx
        exact hgc _ _ hc0
      · simp only [Nat.zero_add, List.getElem?_cons_succ, List.getElem?_cons_zero, Option.some.injEq] at hx
        subst hx
        have := hgc _ _ hc1
        rw [show o + j * 2 + (0 + 1) = o + (j * 2 + 1) by omega]; exact this
      · simp at hx
    intro b10 W1 n10
    have e10 := n10.num; have z10 := n10.size
    refine ⟨_, _, n10.blk, rfl, by show 0 + 2 ≤ 2; decide, rfl, fun W2 u2 => ?_⟩
    have B10 : Blk W2 b10 [.int .i64 (prs[j].1 : Nat), .int .i64 (prs[j].2 : Nat)] 109 := u2.blk
    have t2 : Tr [] W W2 := u2.ext n10.tr (by omega)
    refine ⟨((8 * (from_ + slot) : Nat) : Int), by rw [w64 (by omega)]; omega, 0, rfl, by decide, _, B10.cell rfl, ((8 * (from_ + slot) + prs[j].1 : Nat) : Int), by rw [w64 (by omega)]; omega, 1, rfl, by decide, _, B10.cell rfl, ?_⟩
    have hm2 := hmW.ext t2
    have hst : (chk (pending ws (prs.take j)).ws (pending ws (prs.take j)).code).state ≠ 2 := by
      show (chk ws (enc ws)).state ≠ 2
      rw [chk_enc]; decide
    refine call (Store_calls hm2 (gW.ext t2) (by omega) (from_ + slot) prs[j].1 prs[j].2 hqok.1 hqok.2 hv hst (by show (prs.take j).length ≤ _; rw [List.length_take]; omega)) ?_
    rintro _ W3 ⟨rfl, v', ev', hm3, hs3⟩
    refine ⟨((j + 1 : Nat) : Int), by show IntKind.i64.wrap ((j : Int) + 1) = _; rw [w64 (by omega)]; omega, ?_⟩
    refine ⟨rfl, ⟨j + 1, R.set (from_ + slot) ((pending ws (prs.take j)).put prs[j].1 prs[j].2, v'), ev'⟩, ⟨rfl, rfl, rfl, rfl, rfl, trivial⟩, ⟨by show j + 1 ≤ _; omega, hm3, ?_, hs.trans (Step.of_ext t2 hs3)⟩, by show prs.length - (j + 1) < prs.length - j; omega⟩
    show (R.set (from_ + slot) _).map (·.1) = _
    rw [List.map_set, hR, List.set_set]
    congr 1
    show Ln.mk ws (enc ws) (prs.take j ++ [(prs[j].1, prs[j].2)]) 0 = Ln.mk ws (enc ws) (prs.take (j + 1)) 0
    rw [List.take_succ_eq_append_getElem hjl]
  · obtain rfl : j = prs.length := by have : ¬ ((j : Nat) : Int) < (prs.length : Int) := hge; omega
    rw [List.take_length] at hv hR
    refine CallDP.imp (callsD_body cx_ok (args := [.pointer (some ⟨p, 0, none⟩), .int .i64 (from_ + slot : Nat)]) Tryd.func75 rfl 29 rfl rfl [.tmp 4] rfl (Flush_body hmW (by omega) (from_ + slot) hv)) ?_
    rintro _ W1 ⟨rfl, ev1, hm1', hs1⟩
    obtain ⟨R1, hR1⟩ : ∃ R1, R1 = R.set (from_ + slot) ((pending ws prs).flush, v) := ⟨_, rfl⟩
    have gW1 : Gl W1 := gW.tr hs1.tr fun b hb => hmW.ge b hb
    have hR1m : R1.map (·.1) = (LS.map quiet).set (from_ + slot) (pending ws prs).flush := by
      rw [hR1, List.map_set]
      show (R.map (·.1)).set _ _ = _
      rw [show R.map (·.1) = _ from hR, List.set_set]
    have hR1p : ∀ r ∈ R1, r.1.pend.length ≤ 1099511627776 := by
      intro r hr
      have : r.1 ∈ R1.map (·.1) := List.mem_map.2 ⟨r, hr, rfl⟩
      rw [hR1m] at this
      rcases List.mem_or_eq_of_mem_set this with h | h
      · obtain ⟨x, _, hx⟩ := List.mem_map.1 h
        rw [← hx]; simp [quiet]
      · rw [h]; show prs.length ≤ _; omega
    rw [← hR1] at hm1' hs1
    refine CallDP.imp (callsD_body cx_ok (args := [.pointer (some ⟨p, 0, none⟩)]) Tryd.func74 rfl 26 rfl rfl [] rfl (Fence_body hm1' gW1 (by omega) hR1p)) ?_
    rintro _ W2 ⟨R2, ev2, hR2, hm2, hs2⟩
    refine ⟨foot p bl bm R2 ev2, ⟨bl, bm, R2, ev2, span, hm2, ?_, rfl⟩, (hs.trans hs1).trans hs2⟩
    rw [hR2]
    have : R1.map (fun r => r.1.settle r.1.mark) = (R1.map (·.1)).map (fun l => l.settle l.mark) := by rw [List.map_map]; rfl
    rw [this, hR1m, List.map_set, settle_pending, List.map_map, List.map_set]
    congr 1

end

end Go.Proofs.YtlfolinjajjgjaaDoor
