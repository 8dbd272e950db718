/- Contracts of code.positions and code.Check. -/
import Derived.Test.YtlfolinjajjgjaaDoorP4
import Derived.Test.YtlfolinjajjgjaaDoorEI
namespace Go.Proofs.YtlfolinjajjgjaaDoor
open Go.E

def startN (i : Nat) : Nat := if i = 0 then 3 else posN (i - 1) + 1

theorem startN_spec : ∀ i, i < 320 → startN i ≤ posN i ∧ (startN i &&& (startN i - 1) = 0 → startN i + 1 = posN i) ∧ (startN i &&& (startN i - 1) ≠ 0 → startN i = posN i) ∧ posN i &&& (posN i - 1) ≠ 0 ∧ startN (i + 1) = posN i + 1 := by decide +kernel

theorem positions_calls (w : World) : Calls cx.P 97 #[] w (Ret fun v w' => v = .func (.func 102) #[] #[] ∧ w = w') := by
  refine calls_body cx_ok (args := []) Tryd.func97 rfl 1 rfl rfl [.tmp 0] rfl ?_
  exact ⟨rfl, rfl⟩

theorem positions1_calls (l : Nat) (J : Nat → World → Prop) (X : World → Prop)
    (hy : ∀ i w, i < 320 → J i w → CallYP cx l [.agg #[.int .i64 (i / 40 : Nat), .int .i64 (i % 40 : Nat)], .int .i64 (posN i : Nat)] w fun v w' => (v = .bool true ∧ J (i + 1) w') ∨ (v = .bool false ∧ X w'))
    (w : World) (h0 : J 0 w) : Calls cx.P 102 #[.func (.yield l) #[] #[]] w (Ret fun _ w' => J 320 w' ∨ X w') := by
  refine calls_body cx_ok (args := [.func (.yield l) #[] #[]]) Tryd.func102 rfl 26 rfl rfl [] rfl ?_
  refine loop_rule cx_ok (fun i w' => i ≤ 320 ∧ J i w') (fun i : Nat => [(0, .func (.yield l) #[] #[]), (4, .int .i64 i), (2, .int .i64 (startN i : Nat))]) (fun i => 320 - i) 0 ⟨rfl, rfl, rfl, trivial⟩ ⟨by omega, h0⟩ ?_
  rintro i w1 ⟨hi, hJ⟩
  refine ⟨fun h => ?_, fun h => ?_⟩
  · have hi' : i < 320 := by omega
    obtain ⟨hle, hpow, hnot, hnp, hnext⟩ := startN_spec i hi'
    have hpl := posN_lt i hi'
    refine loop_rule cx_ok (fun m w' => (m = startN i ∨ m = posN i) ∧ m ≤ posN i ∧ 1 ≤ m ∧ w1 = w') (fun m : Nat => [(0, .func (.yield l) #[] #[]), (4, .int .i64 i), (3, .int .i64 i), (2, .int .i64 m)]) (fun m => posN i - m) (startN i)
      ⟨rfl, rfl, rfl, rfl, trivial⟩ ⟨.inl rfl, hle, by unfold startN; split <;> omega, rfl⟩ ?_
    rintro m _ ⟨hm, hmle, hm1, rfl⟩
    refine ⟨((m - 1 : Nat) : Int), by rw [w64 (by omega)]; omega, _, bits_and m (m - 1) (by omega) (by omega), fun h2 => ?_, fun h2 => ?_⟩
    · have h2' : m &&& (m - 1) = 0 := by omega
      have hms : m = startN i := hm.resolve_right fun e => hnp (e ▸ h2')
      refine ⟨((m + 1 : Nat) : Int), by rw [w64 (by omega)]; omega, ?_⟩
      refine ⟨rfl, m + 1, ⟨rfl, rfl, rfl, rfl, trivial⟩, ⟨.inr ?_, ?_, by omega, rfl⟩, ?_⟩
      · rw [hms]; exact hpow (hms ▸ h2')
      · rw [hms, hpow (hms ▸ h2')]; exact Nat.le_refl _
      · have := hpow (hms ▸ h2'); omega
    · have h2' : m &&& (m - 1) ≠ 0 := by omega
      have hmp : m = posN i := hm.elim (fun e => by rw [e]; exact hnot (e ▸ h2')) id
      subst hmp
      refine ⟨((i / 40 : Nat) : Int), by decide, ?_, ((i % 40 : Nat) : Int), by decide, ?_, _, rfl, ?_⟩
      · rw [IntWalk.i64_quo _ _ (by omega)]; omega
      · rw [IntWalk.rem_in _ _ (by omega)]; omega
      refine (hy i _ hi' hJ).imp ?_
      rintro v w2 (⟨rfl, hJ2⟩ | ⟨rfl, hX⟩)
      · refine ⟨((posN i + 1 : Nat) : Int), by rw [w64 (by omega)]; omega, ((i + 1 : Nat) : Int), by rw [w64 (by omega)]; omega, ?_⟩
        exact ⟨rfl, i + 1, ⟨rfl, rfl, by rw [hnext]; rfl, trivial⟩, ⟨by omega, hJ2⟩, by omega⟩
      · exact .inr hX
  · obtain rfl : i = 320 := by omega
    exact .inl hJ

theorem posN_pow : ∀ i, i < 320 → posN i &&& (posN i - 1) ≠ 0 := fun i hi => (startN_spec i hi).2.2.2.1

theorem find_some {s i : Nat} (hi : i < 320) (hs : posN i = s) (hbefore : ∀ j, j < i → posN j ≠ s) : (List.range 320).find? (fun i => posN i == s) = some i := by
  rw [List.find?_eq_some_iff_append]
  refine ⟨by simpa using hs, List.range i, List.range' (i + 1) (320 - i - 1), range_split i 320 hi, fun j hj => ?_⟩
  have := hbefore j (List.mem_range.1 hj)
  simpa using this

theorem find_none {s : Nat} (h : ∀ j, j < 320 → posN j ≠ s) : (List.range 320).find? (fun i => posN i == s) = none := by
  rw [List.find?_eq_none]
  intro j hj
  have := h j (List.mem_range.1 hj)
  simpa using this

def stVal (s : St) : Value := .tuple #[.int .i64 (s.state : Nat), .int .i64 (s.word : Nat), .int .i64 (s.bit : Nat)]

set_option maxHeartbeats 1000000 in
theorem Check_calls (ws : List Nat) (h8 : Line8 ws) (code : Nat) (hcode : code < 1024) (w : World) (hg : Gl w) :
    Calls cx.P 89 #[.agg (wcells ws).toArray, .int .i64 code] w (Ret fun v w' => v = stVal (chk ws code) ∧ Tr [] w w') := by
  refine calls_body_m cx_ok (args := [.agg (wcells ws).toArray, .int .i64 code]) Tryd.func89 rfl 64 rfl rfl [.cell 4 3, .cell 5 3, .cell 6 3] rfl ?_
  intro b2 w1 n1 b4 w2 n2 b5 w3 n3 b6 w4 n4
  have hlen : (wcells ws).length = 8 := by simp [wcells, h8.len]
  have hsb := synTo_bd ws 8 (by omega)
  have hs1 : (syn ws).1 < 512 := hsb.1
  have hs2 : (syn ws).2 ≤ 320 := hsb.2
  have e1 := n1.num; have e2 := n2.num; have e3 := n3.num; have e4 := n4.num
  have z1 := n1.size; have z2 := n2.size; have z3 := n3.size; have z4 := n4.size
  have B2 := n1.blk.ext (n2.tr.ext (n3.tr.ext n4.tr))
  have t4 := (n1.tr.ext n2.tr).ext (n3.tr.ext n4.tr)
  refine ⟨wcells ws, B2.all, hlen, ?_⟩
  refine call (valid_calls ws h8 code hcode w4) ?_
  rintro _ w5 ⟨rfl, t5⟩
  refine ⟨wcells ws, (B2.ext t5).all, hlen, ?_⟩
  refine call (sum_calls ws h8 w5 (hg.ext (t4.ext t5))) ?_
  rintro _ w6 ⟨rfl, t6⟩
  intro b7 w7 n7
  have e7 := n7.num; have z7 := n7.size; have z5 := t5.size; have z6 := t6.size
  refine ⟨_, _, n7.blk, by decide, rfl, ?_⟩
  intro w8 u8
  have B7 := u8.blk
  have z8 := u8.size
  have hand : code &&& 511 < 512 := Nat.lt_of_le_of_lt Nat.and_le_right (by decide)
  refine ⟨_, B7.cell rfl, _, bits_and code 511 (by omega) (by decide), _, bits_xor (syn ws).1 (code &&& 511) (by omega) (by omega), _, _, B7, by show 0 < 1; decide, rfl, ?_⟩
  intro w9 u9
  have B7 := u9.blk
  have z9 := u9.size
  -- the world now against w
  have t47 : Tr [] w4 w7 := (t5.ext t6).ext n7.tr
  have t49 : Tr [] w4 w9 := (u8.ext t47 (by omega)) |> fun t => u9.ext t (by omega)
  have t9 : Tr [] w w9 := t4.ext t49
  have B4 : Blk w9 b4 [.int .i64 0] 3 := (n2.blk.ext (n3.tr.ext n4.tr)).ext t49
  have B5 : Blk w9 b5 [.int .i64 0] 3 := (n3.blk.ext n4.tr).ext t49
  have B6 : Blk w9 b6 [.int .i64 0] 3 := n4.blk.ext t49
  have hone : onesN code ≤ 10 := by
    have := List.length_filter_le (fun i => code.testBit i) (List.range 10)
    simpa [onesN] using this
  refine ⟨(code : Int), by rw [IntKind.wrap_u64]; omega, ?_⟩
  refine call (OnesCount_calls code hcode w9) ?_
  rintro _ _ ⟨rfl, rfl⟩
  obtain ⟨s, hs⟩ : ∃ s, s = (syn ws).1 ^^^ (code &&& 511) := ⟨_, rfl⟩
  rw [← hs] at B7
  have hslt : s < 512 := by rw [hs]; exact xor_lt512 hs1 hand
  refine ⟨(((syn ws).2 + onesN code : Nat) : Int), by rw [w64 (by omega)]; omega, ((((syn ws).2 + onesN code) % 2 : Nat) : Int), by decide, ?_, ?_⟩
  · rw [IntWalk.rem_in _ _ (by omega)]; omega
  -- the three results stored
  have fin : ∀ (x y z : Int) (st : St) (wa : World), Tr [] w wa → Blk wa b4 [.int .i64 0] 3 → Blk wa b5 [.int .i64 0] 3 → Blk wa b6 [.int .i64 0] 3 → chk ws code = st → x = st.state → y = st.word → z = st.bit →
      ∃ l T, Blk wa b4 l T ∧ 0 < l.length ∧ E.one (.int .i64 x) = true ∧ ∀ wb, Upd wa b4 (.cells (l.set 0 (.int .i64 x)).toArray T) wb →
      ∃ l T, Blk wb b5 l T ∧ 0 < l.length ∧ E.one (.int .i64 y) = true ∧ ∀ wc, Upd wb b5 (.cells (l.set 0 (.int .i64 y)).toArray T) wc →
      ∃ l T, Blk wc b6 l T ∧ 0 < l.length ∧ E.one (.int .i64 z) = true ∧ ∀ wd, Upd wc b6 (.cells (l.set 0 (.int .i64 z)).toArray T) wd →
      ∃ v, wd.cell? ⟨b4, 0, none⟩ = some v ∧ ∃ v1, wd.cell? ⟨b5, 0, none⟩ = some v1 ∧ ∃ v2, wd.cell? ⟨b6, 0, none⟩ = some v2 ∧ (pack [v, v1, v2] = stVal (chk ws code) ∧ Tr [] w wd) := by
    intro x y z st wa ta A4 A5 A6 hst hx hy hz
    refine ⟨_, _, A4, by decide, rfl, fun wb ub => ⟨_, _, A5.tr ub.tr (by simp; omega), by decide, rfl, fun wc uc => ⟨_, _, (A6.tr ub.tr (by simp; omega)).tr uc.tr (by simp; omega), by decide, rfl, fun wd ud => ?_⟩⟩⟩
    refine ⟨_, ((ub.blk.tr uc.tr (by simp; omega)).tr ud.tr (by simp; omega)).cell rfl, _, (uc.blk.tr ud.tr (by simp; omega)).cell rfl, _, ud.blk.cell rfl, ?_, ?_⟩
    · rw [hst, hx, hy, hz]; rfl
    · exact ud.ext (uc.ext (ub.ext ta (by omega)) (by omega)) (by omega)
  refine ⟨fun hodd => ?_, fun hodd => ?_⟩
  · have hodd' : ((syn ws).2 + onesN code) % 2 = 1 := by omega
    refine ⟨_, B7.cell rfl, fun h0 => ?_, fun h0 => ?_⟩
    · have h0' : s = 0 := by omega
      exact fin 1 8 9 ⟨1, 8, 9⟩ w9 t9 B4 B5 B6 (by unfold chk; simp only [if_pos hodd', ← hs, h0', if_true]) rfl rfl rfl
    · have h0' : s ≠ 0 := by omega
      refine ⟨_, B7.cell rfl, _, B7.cell rfl, ((s - 1 : Nat) : Int), by rw [w64 (by omega)]; omega, _, bits_and s (s - 1) (by omega) (by omega), fun hp => ?_, fun hp => ?_⟩
      · have hp' : s &&& (s - 1) = 0 := by omega
        refine ⟨_, B7.cell rfl, (s : Int), by rw [IntKind.wrap_u64]; omega, ?_⟩
        refine call (TrailingZeros_calls s h0' (by omega) w9 (hg.ext t9)) ?_
        rintro _ _ ⟨rfl, rfl⟩
        exact fin 1 8 (ctzN s : Nat) ⟨1, 8, ctzN s⟩ w9 t9 B4 B5 B6 (by unfold chk; simp only [if_pos hodd', ← hs, if_neg h0', if_pos hp']) rfl rfl rfl
      · have hp' : s &&& (s - 1) ≠ 0 := by omega
        refine call (positions_calls w9) ?_
        rintro _ _ ⟨rfl, rfl⟩
        refine range_rule cx_ok (first := []) (cap := []) (g := 102) rfl rfl ?_
        intro fn tmps bD l wa wb na nb hag
        have ea := na.num; have eb := nb.num; have za := na.size; have zb := nb.size
        have tb : Tr [] w9 wb := na.tr.ext nb.tr
        have C4 := B4.ext tb; have C5 := B5.ext tb; have C6 := B6.ext tb; have C7 := B7.ext tb
        have hbD : wb.heap[bD]? = some (.deferred (some [])) := nb.tr.get na.get (by simp)
        -- behind the loop
        have fin2 : ∀ (x y z : Int) (st : St) (wc : World), Tr [l] wb wc → chk ws code = st → x = st.state → y = st.word → z = st.bit →
            ∃ A T, Blk wc b4 A T ∧ 0 < A.length ∧ E.one (.int .i64 x) = true ∧ ∀ wd, Upd wc b4 (.cells (A.set 0 (.int .i64 x)).toArray T) wd →
            ∃ A T, Blk wd b5 A T ∧ 0 < A.length ∧ E.one (.int .i64 y) = true ∧ ∀ we, Upd wd b5 (.cells (A.set 0 (.int .i64 y)).toArray T) we →
            ∃ A T, Blk we b6 A T ∧ 0 < A.length ∧ E.one (.int .i64 z) = true ∧ ∀ wf, Upd we b6 (.cells (A.set 0 (.int .i64 z)).toArray T) wf →
            wf.heap[bD]? = some (.deferred (some [])) ∧ ∀ wg, Upd wf bD (.deferred none) wg →
            ∃ v, wg.cell? ⟨b4, 0, none⟩ = some v ∧ ∃ v1, wg.cell? ⟨b5, 0, none⟩ = some v1 ∧ ∃ v2, wg.cell? ⟨b6, 0, none⟩ = some v2 ∧ (pack [v, v1, v2] = stVal (chk ws code) ∧ Tr [] w wg) := by
          intro x y z st wc tc hst hx hy hz
          refine ⟨_, _, C4.tr tc (by simp; omega), by show 0 < 1; decide, rfl, fun wd ud => ⟨_, _, (C5.tr tc (by simp; omega)).tr ud.tr (by simp; omega), by show 0 < 1; decide, rfl, fun we ue =>
            ⟨_, _, ((C6.tr tc (by simp; omega)).tr ud.tr (by simp; omega)).tr ue.tr (by simp; omega), by show 0 < 1; decide, rfl, fun wf uf => ⟨?_, fun wg ug => ?_⟩⟩⟩⟩
          · exact uf.tr.get (ue.tr.get (ud.tr.get (tc.get hbD (by simp; omega)) (by simp; omega)) (by simp; omega)) (by simp; omega)
          · refine ⟨_, (((ud.blk.tr ue.tr (by simp; omega)).tr uf.tr (by simp; omega)).tr ug.tr (by simp; omega)).cell rfl, _, ((ue.blk.tr uf.tr (by simp; omega)).tr ug.tr (by simp; omega)).cell rfl, _, (uf.blk.tr ug.tr (by simp; omega)).cell rfl, ?_, ?_⟩
            · rw [hst, hx, hy, hz]; rfl
            · have t1 : Tr [] w wc := (t9.ext tb).trans tc (fun _ h => h) (fun c hc hlt => by simp at hc; omega)
              exact ug.ext (uf.ext (ue.ext (ud.ext t1 (by omega)) (by omega)) (by omega)) (by omega)
        refine call (positions1_calls l (fun i W => Tr [l] wb W ∧ W.heap[l]? = wb.heap[l]? ∧ ∀ j, j < i → posN j ≠ s)
          (fun W => ∃ i, i < 320 ∧ posN i = s ∧ (∀ j, j < i → posN j ≠ s) ∧ Tr [l, b4, b5, b6] wb W ∧ Blk W b4 [.int .i64 1] 3 ∧ Blk W b5 [.int .i64 (i / 40 : Nat)] 3 ∧ Blk W b6 [.int .i64 (i % 40 : Nat)] 3 ∧
            ∃ lp, W.heap[l]? = some (.loop lp) ∧ lp.state = .done ∧ lp.pending = some .ret) ?_ wb ⟨Tr.refl _ _, rfl, fun j hj => by omega⟩) ?_
        · rintro i W hi ⟨tJ, hlJ, hb⟩
          have zW := tJ.size
          refine round_rule cx_ok [55, 56] (hlJ.trans nb.get) rfl rfl rfl hag rfl ?_
          intro b10 W1 m1
          have em := m1.num; have zm := m1.size
          refine ⟨_, _, m1.blk, rfl, by show 0 + 2 ≤ 2; decide, rfl, ?_⟩
          intro W2 v2
          have zv := v2.size
          have D10 := v2.blk
          have hl2 : W2.heap[l]? = wb.heap[l]? := by
            rw [v2.tr.keep l (by omega) (by simp; omega), m1.tr.keep l (by omega) (by simp), hlJ]
          refine ⟨hl2.trans nb.get, ?_⟩
          intro W3 v3
          have zv3 := v3.size
          have t3 : Tr [l] wb W3 := (tJ.trans m1.tr (fun _ h => h) (fun _ h _ => by cases h) |>.trans v2.tr (fun _ h => h) (fun c hc hlt => by simp at hc; omega)).trans v3.tr (fun _ h => h) (fun _ h _ => h)
          have D7 := C7.tr t3 (by simp; omega)
          have D10 := D10.tr v3.tr (by simp; omega)
          refine ⟨_, D7.cell rfl, fun h => ?_, fun h => ?_⟩
          · have hpos : posN i = s := by omega
            refine draw_rule cx_ok [b4, b5] (Plan.takes [0, 1, 2, 3] (.one true 4 (.one true 5 (.one false 6 .done)))) (by kernel_rfl) ?_
            intro W4 dr
            have t4' : Tr [l] wb W4 := t3.trans dr.tr (fun _ h => h) (fun _ h _ => by cases h)
            have zd := dr.tr.size
            refine ⟨_, fun w' t => t.cell (D10.cell rfl) (by simp; omega), _, fun w' t => t.cell (D10.cell rfl) (by simp; omega), ?_⟩
            refine ⟨⟨_, _, C4.tr t4' (by simp; omega), by show 0 < 1; decide, rfl, fun W5 u5 => ⟨dr.tr.trans u5.tr (fun _ h => by cases h) (fun c h _ => by simp at h ⊢; omega), ?_⟩⟩, trivial⟩
            refine ⟨⟨_, _, (C5.tr t4' (by simp; omega)).tr u5.tr (by simp; omega), by show 0 < 1; decide, rfl, fun W6 u6 => ⟨(dr.tr.trans u5.tr (fun _ h => by cases h) (fun c h _ => by simp at h ⊢; omega)).trans u6.tr (S := [b4, b5]) (fun _ h => h) (fun c h _ => by simp at h ⊢; omega), ?_⟩⟩, trivial⟩
            refine ⟨⟨_, _, ((C6.tr t4' (by simp; omega)).tr u5.tr (by simp; omega)).tr u6.tr (by simp; omega), by show 0 < 1; decide, rfl, fun W7 u7 => ?_⟩, trivial⟩
            have z5' := u5.size; have z6' := u6.size; have z7' := u7.size
            refine ⟨_, u7.tr.get (u6.tr.get (u5.tr.get (dr.tr.get v3.get (by simp)) (by simp; omega)) (by simp; omega)) (by simp; omega), fun W8 u8' => ?_⟩
            refine .inr ⟨rfl, i, hi, hpos, hb, ?_, ?_, ?_, ?_, _, u8'.get, rfl, rfl⟩
            · have q5 : Tr [l, b4, b5, b6] wb W5 := t4'.trans u5.tr (fun c h => by simp at h ⊢; exact .inl h) (fun c h _ => by simp at h ⊢; omega)
              have q6 : Tr [l, b4, b5, b6] wb W6 := q5.trans u6.tr (fun _ h => h) (fun c h _ => by simp at h ⊢; omega)
              have q7 : Tr [l, b4, b5, b6] wb W7 := q6.trans u7.tr (fun _ h => h) (fun c h _ => by simp at h ⊢; omega)
              exact q7.trans u8'.tr (fun _ h => h) (fun c h _ => by simp at h ⊢; omega)
            · exact ((u5.blk.tr u6.tr (by simp; omega)).tr u7.tr (by simp; omega)).tr u8'.tr (by simp; omega)
            · exact ((u6.blk.tr u7.tr (by simp; omega)).tr u8'.tr (by simp; omega))
            · exact u7.blk.tr u8'.tr (by simp; omega)
          · refine ⟨_, v3.get, fun W8 u8' => .inl ⟨rfl, t3.same u8'.tr, ?_, ?_⟩⟩
            · rw [u8'.get, nb.get]
            · intro j hj
              by_cases hji : j = i
              · subst hji; omega
              · exact hb j (by omega)
        · rintro _ w3' (⟨tJ, hlJ, hall⟩ | ⟨i, hi, hpos, hb, tX, X4, X5, X6, lp, hlp, hst, hpend⟩)
          · refine ⟨_, hlJ.trans nb.get, by simp, fun w4' u4 => ?_⟩
            have tq : Tr [l] wb w4' := tJ.same u4.tr
            exact fin2 2 0 0 ⟨2, 0, 0⟩ w4' tq (by unfold chk; simp only [if_pos hodd', ← hs, if_neg h0', if_neg hp', find_none hall]) rfl rfl rfl
          · refine ⟨lp, hlp, by rw [hst]; simp, fun w4' u4 => ?_⟩
            rw [hpend]
            have zX := tX.size
            have z4' := u4.size
            refine ⟨?_, fun w5' u5 => ?_⟩
            · exact u4.tr.get (tX.get hbD (by simp; omega)) (by simp; omega)
            · refine ⟨_, ((X4.tr u4.tr (by simp; omega)).tr u5.tr (by simp; omega)).cell rfl, _, ((X5.tr u4.tr (by simp; omega)).tr u5.tr (by simp; omega)).cell rfl, _, ((X6.tr u4.tr (by simp; omega)).tr u5.tr (by simp; omega)).cell rfl, ?_, ?_⟩
              · have : chk ws code = ⟨1, i / 40, i % 40⟩ := by unfold chk; simp only [if_pos hodd', ← hs, if_neg h0', if_neg hp', find_some hi hpos hb]
                rw [this]; rfl
              · have t1 : Tr [] w w3' := (t9.ext tb).trans tX (fun _ h => h) (fun c hc hlt => by simp at hc; omega)
                exact u5.ext (u4.ext t1 (by omega)) (by omega)
  · have hodd' : ¬ ((syn ws).2 + onesN code) % 2 = 1 := by omega
    refine ⟨_, B7.cell rfl, fun h0 => ?_, fun h0 => ?_⟩
    · have h0' : s = 0 := by omega
      exact fin 0 0 0 ⟨0, 0, 0⟩ w9 t9 B4 B5 B6 (by unfold chk; simp only [if_neg hodd', ← hs, h0', if_true]) rfl rfl rfl
    · have h0' : s ≠ 0 := by omega
      exact fin 2 0 0 ⟨2, 0, 0⟩ w9 t9 B4 B5 B6 (by unfold chk; simp only [if_neg hodd', ← hs, if_neg h0']) rfl rfl rfl

end Go.Proofs.YtlfolinjajjgjaaDoor
