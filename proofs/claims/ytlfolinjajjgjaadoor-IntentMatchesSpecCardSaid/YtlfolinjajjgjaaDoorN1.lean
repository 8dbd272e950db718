/- Same, SameSlot, SameInts, Lost, Blocks. -/
import Derived.Test.YtlfolinjajjgjaaDoorN0
namespace Go.Proofs.YtlfolinjajjgjaaDoor
open Go.E

/-- A list of slots, to read alone. -/
def SlR (w : World) (v : Value) (S : List Sl) : Prop := ∃ a c, v = .slice a S.length c ∧ S.length ≤ 1048576 ∧ ((a = none ∧ S.length = 0) ∨ ∃ g o, a = some ⟨g, o, none⟩ ∧ ∀ i s, S[i]? = some s → s.blocks.length ≤ 1048576 ∧ ∃ bv, Cells w g (o + i * 4) (zcells (s, bv)) ∧ Sli w bv s.blocks.length (icells s.blocks))

theorem SlR.ext {w w' : World} {v : Value} {S : List Sl} (h : SlR w v S) (t : Tr [] w w') : SlR w' v S := by
  obtain ⟨a, c, hv, hn, h | ⟨g, o, ha, hc⟩⟩ := h
  · exact ⟨a, c, hv, hn, .inl h⟩
  · refine ⟨a, c, hv, hn, .inr ⟨g, o, ha, fun i s hs => ?_⟩⟩
    obtain ⟨hb, bv, h1, h2⟩ := hc i s hs
    exact ⟨hb, bv, h1.ext t, h2.ext t⟩

theorem SlW.slr {w : World} {v : Value} {Z : List (Sl × Value)} {S : List Sl} (h : SlW w v Z) (hS : Z.map (·.1) = S) (hn : S.length ≤ 1048576) (hb : ∀ s ∈ S, s.blocks.length ≤ 1048576) : SlR w v S := by
  have hl : Z.length = S.length := by rw [← hS]; simp
  rcases Row.elem h.row with ⟨rfl, h0⟩ | ⟨g, cap, rfl, _, _, hc⟩
  · exact ⟨none, 0, by rw [← hl, h0], hn, .inl ⟨rfl, by omega⟩⟩
  · refine ⟨_, cap, by rw [hl], hn, .inr ⟨g, 0, rfl, fun i s hs => ?_⟩⟩
    rw [← hS, List.getElem?_map] at hs
    obtain ⟨z, hz, rfl⟩ := Option.map_eq_some_iff.1 hs
    exact ⟨hb _ (by rw [← hS]; exact List.mem_map.2 ⟨z, List.mem_of_getElem? hz, rfl⟩), z.2, zcells_get hz hc, Row.sli (h.blk z (List.mem_of_getElem? hz))⟩

theorem Sli.slice {w : World} {v : Value} {n : Nat} {xs : List Value} (h : Sli w v n xs) : ∃ a c, v = .slice a n c := let ⟨a, c, h, _⟩ := h; ⟨a, c, h⟩

theorem SameInts_calls (w : World) (xs ys : List Nat) (hx : xs.length ≤ 1048576) (s t : Value) (hs : Sli w s xs.length (icells xs)) (ht : Sli w t ys.length (icells ys)) :
    Calls cx.P 28 #[s, t] w (Ret fun v w' => v = .bool (decide (xs = ys)) ∧ Tr [] w w') := by
  obtain ⟨a, c, rfl, _, hs⟩ := hs
  obtain ⟨a', c', rfl, _, ht⟩ := ht
  refine calls_body cx_ok (args := [.slice a xs.length c, .slice a' ys.length c']) Tryd.func28 rfl 26 rfl rfl [.tmp 4] rfl ?_
  refine ⟨fun he => ?_, fun hne => ?_⟩
  · have he' : xs.length = ys.length := by omega
    refine loop_rule cx_ok (fun k W => k ≤ xs.length ∧ Tr [] w W ∧ ∀ i, i < k → xs[i]? = ys[i]?) (fun k : Nat => [(0, .slice a xs.length c), (1, .slice a' ys.length c'), (5, .int .i64 k)]) (fun k => xs.length - k) 0 ⟨rfl, rfl, rfl, trivial⟩ ⟨by omega, Tr.refl _ _, fun i hi => by omega⟩ ?_
    rintro k W ⟨hk, tW, hsame⟩
    refine ⟨fun hlt => ?_, fun hge => ?_⟩
    · have hkx : k < xs.length := by omega
      obtain ⟨g, o, rfl, hc⟩ := hs.resolve_left (fun hh => by have := hh.2; omega)
      obtain ⟨g', o', rfl, hc'⟩ := ht.resolve_left (fun hh => by have := hh.2; omega)
      have h1 : w.cell? ⟨g, o + k * 1, none⟩ = some (.int .i64 (xs[k] : Nat)) := by rw [Nat.mul_one]; exact hc k _ (icells_get (List.getElem?_eq_getElem hkx))
      have hky : k < ys.length := by omega
      have h2 : w.cell? ⟨g', o' + k * 1, none⟩ = some (.int .i64 (ys[k] : Nat)) := by rw [Nat.mul_one]; exact hc' k _ (icells_get (List.getElem?_eq_getElem hky))
      refine draw_rule cx_ok [] (Plan.takes [0, 1, 2, 3, 4, 5, 6, 7, 8] .done) (by kernel_rfl) ?_
      intro W1 d
      refine ⟨k, rfl, hkx, _, fun w' t => (tW.ext t).cell h1 (by simp), k, rfl, hky, _, fun w' t => (tW.ext t).cell h2 (by simp), fun heq => ?_, fun hneq => ?_⟩
      · have heq' : xs[k] = ys[k] := by omega
        refine ⟨((k + 1 : Nat) : Int), by rw [w64 (by omega)]; omega, ?_⟩
        refine ⟨rfl, k + 1, ⟨rfl, rfl, rfl, trivial⟩, ⟨by omega, tW.ext d.tr, fun i hi => ?_⟩, by omega⟩
        by_cases hik : i = k
        · subst hik; rw [List.getElem?_eq_getElem hkx, List.getElem?_eq_getElem hky, heq']
        · exact hsame i (by omega)
      · have hne' : xs ≠ ys := fun e => hneq (by subst e; rfl)
        exact ⟨by simp [hne'], tW.ext d.tr⟩
    · have hkx : k = xs.length := by omega
      have : xs = ys := List.ext_getElem? fun i => by
        by_cases hi : i < k
        · exact hsame i hi
        · rw [List.getElem?_eq_none (by omega), List.getElem?_eq_none (by omega)]
      exact ⟨by simp [this], tW⟩
  · have : xs ≠ ys := fun e => hne (by rw [e])
    exact ⟨by simp [this], Tr.refl _ _⟩

set_option maxHeartbeats 1000000 in
theorem SameSlot_calls (w : World) (s t : Sl) (hx : s.blocks.length ≤ 1048576) (bs bt : Value) (hs : Sli w bs s.blocks.length (icells s.blocks)) (ht : Sli w bt t.blocks.length (icells t.blocks)) :
    Calls cx.P 37 #[.agg (zcells (s, bs)).toArray, .agg (zcells (t, bt)).toArray] w (Ret fun v w' => v = .bool (decide (s = t)) ∧ Tr [] w w') := by
  obtain ⟨a, c, rfl, _, hs⟩ := hs
  obtain ⟨a', c', rfl, _, ht⟩ := ht
  refine calls_body cx_ok (args := [.agg (zcells (s, .slice a s.blocks.length c)).toArray, .agg (zcells (t, .slice a' t.blocks.length c')).toArray]) Tryd.func37 rfl 52 rfl rfl [.tmp 4] rfl ?_
  intro b2 w1 n1 b3 w2 n2
  have e1 := n1.num; have z1 := n1.size
  have tw2 : Tr [] w w2 := n1.tr.ext n2.tr
  have B2 : Blk w2 b2 (zcells (s, .slice a s.blocks.length c)) 54 := (show Blk w1 b2 (zcells (s, .slice a s.blocks.length c)) _ from n1.blk).ext n2.tr
  have B3 : Blk w2 b3 (zcells (t, .slice a' t.blocks.length c')) 54 := n2.blk
  have no : s ≠ t → Value.bool false = .bool (decide (s = t)) ∧ Tr [] w w2 := fun h => ⟨by simp [h], tw2⟩
  refine ⟨_, B2.cell rfl, _, B3.cell rfl, fun h0 => ?_, fun h0 => no fun e => h0 (by subst e; rfl)⟩
  refine ⟨_, B2.cell rfl, _, B3.cell rfl, fun h1 => ?_, fun h1 => no fun e => h1 (by subst e; rfl)⟩
  refine ⟨_, B2.cell rfl, _, B3.cell rfl, fun h2 => ?_, fun h2 => no fun e => h2 (by subst e; rfl)⟩
  have p2 : w2.cell? ⟨b2, 0 + 3, none⟩ = some (.slice a s.blocks.length c) := B2.cell rfl
  have p3 : w2.cell? ⟨b3, 0 + 3, none⟩ = some (.slice a' t.blocks.length c') := B3.cell rfl
  refine ⟨_, p2, _, p3, fun h3 => ?_, fun h3 => no fun e => h3 (by subst e; rfl)⟩
  have h0' : s.slot = t.slot := by have : ((s.slot : Nat) : Int) = (t.slot : Nat) := h0; omega
  have h1' : s.owner = t.owner := by have : ((s.owner : Nat) : Int) = (t.owner : Nat) := h1; omega
  have h2' : s.stamp = t.stamp := by have : ((s.stamp : Nat) : Int) = (t.stamp : Nat) := h2; omega
  have h3' : s.blocks.length = t.blocks.length := by omega
  refine loop_rule cx_ok (fun k W => k ≤ s.blocks.length ∧ Tr [] w2 W ∧ ∀ i, i < k → s.blocks[i]? = t.blocks[i]?) (fun k : Nat => [(2, .pointer (some ⟨b2, 0, none⟩)), (3, .pointer (some ⟨b3, 0, none⟩)), (5, .int .i64 k)]) (fun k => s.blocks.length - k) 0 ⟨rfl, rfl, rfl, trivial⟩ ⟨by omega, Tr.refl _ _, fun i hi => by omega⟩ ?_
  rintro k W ⟨hk, tW, hsame⟩
  refine ⟨_, tW.cell p2 (by simp), fun hlt => ?_, fun hge => ?_⟩
  · have hkx : k < s.blocks.length := by omega
    have hky : k < t.blocks.length := by omega
    obtain ⟨g, o, rfl, hc⟩ := hs.resolve_left (fun hh => by have := hh.2; omega)
    obtain ⟨g', o', rfl, hc'⟩ := ht.resolve_left (fun hh => by have := hh.2; omega)
    have c1 : W.cell? ⟨g, o + k * 1, none⟩ = some (.int .i64 (s.blocks[k] : Nat)) := by rw [Nat.mul_one]; exact (tw2.ext tW).cell (hc k _ (icells_get (List.getElem?_eq_getElem hkx))) (by simp)
    have c2 : W.cell? ⟨g', o' + k * 1, none⟩ = some (.int .i64 (t.blocks[k] : Nat)) := by rw [Nat.mul_one]; exact (tw2.ext tW).cell (hc' k _ (icells_get (List.getElem?_eq_getElem hky))) (by simp)
    refine draw_rule cx_ok [] (Plan.takes [0, 1, 2, 3, 4, 5, 6, 7, 8, 9, 10] .done) (by kernel_rfl) ?_
    intro W1 d
    refine ⟨_, fun w' t => (tW.ext t).cell p2 (by simp), k, rfl, hkx, _, fun w' t => t.cell c1 (by simp), _, fun w' t => (tW.ext t).cell p3 (by simp), k, rfl, hky, _, fun w' t => t.cell c2 (by simp), fun heq => ?_, fun hneq => ?_⟩
    · have heq' : s.blocks[k] = t.blocks[k] := by omega
      refine ⟨((k + 1 : Nat) : Int), by rw [w64 (by omega)]; omega, ?_⟩
      refine ⟨rfl, k + 1, ⟨rfl, rfl, rfl, trivial⟩, ⟨by omega, tW.ext d.tr, fun i hi => ?_⟩, by omega⟩
      by_cases hik : i = k
      · subst hik; rw [List.getElem?_eq_getElem hkx, List.getElem?_eq_getElem hky, heq']
      · exact hsame i (by omega)
    · have hne' : s ≠ t := fun e => hneq (by subst e; rfl)
      exact ⟨by simp [hne'], (tw2.ext tW).ext d.tr⟩
  · have hkx : k = s.blocks.length := by omega
    have hb : s.blocks = t.blocks := List.ext_getElem? fun i => by
      by_cases hi : i < k
      · exact hsame i hi
      · rw [List.getElem?_eq_none (by omega), List.getElem?_eq_none (by omega)]
    have : s = t := by
      cases s; cases t
      simp only at h0' h1' h2' hb
      subst h0' h1' h2' hb
      rfl
    exact ⟨by simp [this], tw2.ext tW⟩

theorem Same_calls (w : World) (S T : List Sl) (s t : Value) (hs : SlR w s S) (ht : SlR w t T) :
    Calls cx.P 12 #[s, t] w (Ret fun v w' => v = .bool (decide (S = T)) ∧ Tr [] w w') := by
  obtain ⟨a, c, rfl, hn, hs⟩ := hs
  obtain ⟨a', c', rfl, hn', ht⟩ := ht
  refine calls_body cx_ok (args := [.slice a S.length c, .slice a' T.length c']) Tryd.func12 rfl 27 rfl rfl [.tmp 4] rfl ?_
  refine ⟨fun he => ?_, fun hne => ?_⟩
  · have he' : S.length = T.length := by omega
    refine loop_rule cx_ok (fun k W => k ≤ S.length ∧ Tr [] w W ∧ ∀ i, i < k → S[i]? = T[i]?) (fun k : Nat => [(0, .slice a S.length c), (1, .slice a' T.length c'), (5, .int .i64 k)]) (fun k => S.length - k) 0 ⟨rfl, rfl, rfl, trivial⟩ ⟨by omega, Tr.refl _ _, fun i hi => by omega⟩ ?_
    rintro k W ⟨hk, tW, hsame⟩
    refine ⟨fun hlt => ?_, fun hge => ?_⟩
    · have hkx : k < S.length := by omega
      have hky : k < T.length := by omega
      obtain ⟨g, o, rfl, hc⟩ := hs.resolve_left (fun hh => by have := hh.2; omega)
      obtain ⟨g', o', rfl, hc'⟩ := ht.resolve_left (fun hh => by have := hh.2; omega)
      obtain ⟨hb, bv, h1, h2⟩ := hc k _ (List.getElem?_eq_getElem hkx)
      obtain ⟨hb', bv', h1', h2'⟩ := hc' k _ (List.getElem?_eq_getElem hky)
      refine draw_rule cx_ok [] (Plan.takes [0, 1, 2, 3, 4, 5, 6, 7] (.one true 8 (Plan.takes [9] .done))) (by kernel_rfl) ?_
      intro W1 d
      refine ⟨k, rfl, hkx, _, fun w' t => h1.ext (tW.ext t), rfl, k, rfl, hky, _, fun w' t => h1'.ext (tW.ext t), rfl, ?_⟩
      refine ⟨?_, trivial⟩
      refine call (SameSlot_calls W1 S[k] T[k] hb bv bv' (h2.ext (tW.ext d.tr)) (h2'.ext (tW.ext d.tr))) ?_
      rintro _ W2 ⟨rfl, t2⟩
      refine ⟨d.tr.ext t2, ?_⟩
      by_cases heq : S[k] = T[k]
      · rw [decide_eq_true heq]
        refine ⟨((k + 1 : Nat) : Int), by rw [w64 (by omega)]; omega, ?_⟩
        refine ⟨rfl, k + 1, ⟨rfl, rfl, rfl, trivial⟩, ⟨by omega, (tW.ext d.tr).ext t2, fun i hi => ?_⟩, by omega⟩
        by_cases hik : i = k
        · subst hik; rw [List.getElem?_eq_getElem hkx, List.getElem?_eq_getElem hky, heq]
        · exact hsame i (by omega)
      · rw [decide_eq_false heq]
        have hne' : S ≠ T := fun e => heq (by subst e; rfl)
        exact ⟨by simp [hne'], (tW.ext d.tr).ext t2⟩
    · have hkx : k = S.length := by omega
      have : S = T := List.ext_getElem? fun i => by
        by_cases hi : i < k
        · exact hsame i hi
        · rw [List.getElem?_eq_none (by omega), List.getElem?_eq_none (by omega)]
      exact ⟨by simp [this], tW⟩
  · have : S ≠ T := fun e => hne (by rw [e])
    exact ⟨by simp [this], Tr.refl _ _⟩

end Go.Proofs.YtlfolinjajjgjaaDoor
