/- Contracts of the memory's functions that only read. -/
import Derived.Test.YtlfolinjajjgjaaDoorM0
import Derived.Test.YtlfolinjajjgjaaDoorEK
namespace Go.Proofs.YtlfolinjajjgjaaDoor
open Go.E

section
variable {w : World} {p bl bm : Nat} {rows : List (Ln × Value)} {evv : Value} {span nev : Nat}

theorem has_calls (h : MemX w p bl bm rows evv span nev) (n : Int) :
    Calls cx.P 38 #[.pointer (some ⟨p, 0, none⟩), .int .i64 n] w (Ret fun v w' => v = .bool (decide (0 ≤ n ∧ n < rows.length)) ∧ w = w') := by
  refine calls_body cx_ok (args := [.pointer (some ⟨p, 0, none⟩), .int .i64 n]) Tryd.func38 rfl 16 rfl rfl [.tmp 4] rfl ?_
  refine ⟨fun h0 => ?_, fun h0 => ?_⟩
  · refine ⟨_, h.head.cell rfl, fun h1 => ?_, fun h1 => ?_⟩
    · exact ⟨by simp [h0, h1], rfl⟩
    · exact ⟨by simp [h1], rfl⟩
  · exact ⟨by simp [h0], rfl⟩

theorem word_calls (x : Int) (w : World) : Calls cx.P 63 #[.int .i64 x] w (Ret fun v w' => v = .bool (decide (0 ≤ x ∧ x ≤ 1099511627775)) ∧ w = w') := by
  refine calls_body cx_ok (args := [.int .i64 x]) Tryd.func63 rfl 9 rfl rfl [.tmp 2] rfl ?_
  refine ⟨fun h0 => ⟨fun h1 => ?_, fun h1 => ?_⟩, fun h0 => ?_⟩
  · exact ⟨by simp [h0, h1], rfl⟩
  · exact ⟨by simp [h1], rfl⟩
  · exact ⟨by simp [h0], rfl⟩

theorem MemX.gl (h : MemX w p bl bm rows evv span nev) (hg : Gl w) {S : List Nat} {w' : World} (t : Tr S w w') (hS : ∀ b ∈ S, b ∈ foot p bl bm rows evv) : Gl w' := hg.tr t fun b hb => h.ge b (hS b hb)

theorem State_calls (h : MemX w p bl bm rows evv span nev) (hg : Gl w) (i : Nat) {r : Ln × Value} (hr : rows[i]? = some r) :
    Calls cx.P 96 #[.pointer (some ⟨p, 0, none⟩), .int .i64 i] w (Ret fun v w' => v = .int .i64 ((chk r.1.ws r.1.code).state : Nat) ∧ Tr [] w w') := by
  have hi : i < rows.length := (List.getElem?_eq_some_iff.1 hr).1
  have hok := h.ok r (List.mem_of_getElem? hr)
  refine calls_body cx_ok (args := [.pointer (some ⟨p, 0, none⟩), .int .i64 i]) Tryd.func96 rfl 36 rfl rfl [.tmp 4] rfl ?_
  refine call (has_calls h i) ?_
  rintro v _ ⟨hv, rfl⟩
  rw [decide_eq_true (by omega)] at hv
  subst hv
  refine draw_rule cx_ok [] (Plan.takes [0, 1, 2, 3, 4, 5, 6, 7, 8, 9, 10, 11, 12, 13, 14, 15, 16, 17] (.one true 18 (Plan.takes [19, 20, 21, 22, 23, 24, 25] .done))) (by kernel_rfl) ?_
  intro w1 d
  refine ⟨_, fun w' t => t.cell (h.head.cell rfl) (by simp), i, rfl, hi, ?_⟩
  refine ⟨_, fun w' t => (h.words hr).tr t (by simp), wcells_len hok.ws, _, fun w' t => t.cell (h.head.cell rfl) (by simp), i, rfl, hi, _, fun w' t => t.cell (h.code hr) (by simp), ?_⟩
  refine ⟨?_, trivial⟩
  refine call (Check_calls r.1.ws hok.ws r.1.code hok.code w1 (hg.ext d.tr)) ?_
  rintro _ w2 ⟨rfl, t2⟩
  exact ⟨d.tr.ext t2, rfl, d.tr.ext t2⟩

def optCells : Option (List Nat) → List Value
  | some ws => wcells ws
  | none => wcells zeros8
def optErr : Option (List Nat) → Int
  | some _ => 0
  | none => 9

theorem pcells_get {ps : List (Nat × Nat)} {j : Nat} {q : Nat × Nat} (h : ps[j]? = some q) : (pcells ps)[j * 2]? = some (.int .i64 (q.1 : Nat)) ∧ (pcells ps)[j * 2 + 1]? = some (.int .i64 (q.2 : Nat)) := by
  have h0 := fm_get (f := fun p : Nat × Nat => [Value.int .i64 (p.1 : Nat), .int .i64 (p.2 : Nat)]) (k := 2) (j := 0) (fun _ _ => rfl) h rfl
  have h1 := fm_get (f := fun p : Nat × Nat => [Value.int .i64 (p.1 : Nat), .int .i64 (p.2 : Nat)]) (k := 2) (j := 1) (fun _ _ => rfl) h rfl
  exact ⟨h0, h1⟩

/-- The elements of a row. -/
theorem Row.elem {e size n : Nat} {v : Value} {xs : List Value} (h : Row w e size v n xs) : (v = .slice none 0 0 ∧ n = 0) ∨ ∃ g cap, v = .slice (some ⟨g, 0, none⟩) n cap ∧ n ≤ cap ∧ cap ≤ maxLen ∧ Cells w g 0 xs := by
  obtain ⟨h1, h2 | ⟨g, cap, cur, rfl, h3, h4, h5, h6, h7, h8⟩⟩ := h
  · exact .inl h2
  · refine .inr ⟨g, cap, rfl, h5, h6, fun i v hv => ?_⟩
    have hb : Blk w g cur.toList e := by unfold Blk; simpa using h4
    rw [Nat.zero_add]
    refine hb.cell ?_
    rw [← h8, List.getElem?_take] at hv
    split at hv
    · exact hv
    · cases hv

theorem Upd.whole {w w' : World} {b T n : Nat} {l vs : List Value} (u : Upd w b (.cells (splice l 0 n vs).toArray T) w') (hl : l.length = n) (hv : vs.length = n) : Blk w' b vs T := by
  have := u.blk
  rwa [splice_all hl hv] at this

def fixW : Option (List Nat × Nat) → List Nat
  | some q => q.1
  | none => zeros8
def fixC : Option (List Nat × Nat) → Nat
  | some q => q.2
  | none => 0
def fixE : Option (List Nat × Nat) → Int
  | some _ => 0
  | none => 9
theorem fixVal_eq (o : Option (List Nat × Nat)) : fixVal o = .tuple #[.agg (wcells (fixW o)).toArray, .int .i64 (fixC o : Nat), .int .i64 (fixE o)] := by
  rcases o with _ | ⟨a, b⟩ <;> rfl

theorem sadr_zero (g sz cap : Nat) : sadr g 0 0 sz cap = ⟨g, 0, none⟩ := by unfold sadr; split <;> simp

theorem wcells_zeros : wcells zeros8 = List.replicate 8 (.int .i64 0) := rfl

set_option maxHeartbeats 1000000 in
theorem shows_calls (h : MemX w p bl bm rows evv span nev) (hg : Gl w) (i k : Nat) {r : Ln × Value} (hr : rows[i]? = some r) (hk : k ≤ r.1.pend.length) :
    Calls cx.P 59 #[.pointer (some ⟨bl, 0 + i * 11, none⟩), .int .i64 k] w (Ret fun v w' => v = .tuple #[.agg (optCells (r.1.shows k)).toArray, .int .i64 (optErr (r.1.shows k))] ∧ Tr [] w w') := by
  have hok := h.ok r (List.mem_of_getElem? hr)
  have hrow := h.pend r (List.mem_of_getElem? hr)
  have hw8 : Line8 (fixW (fix r.1.ws r.1.code)) := by
    cases hf : fix r.1.ws r.1.code with
    | none => exact zeros8_ok
    | some q => exact (fix_line (vs := q.1) (c := q.2) hok.ws hok.code hf).1
  have hlw := wcells_len hw8
  refine calls_body cx_ok (args := [.pointer (some ⟨bl, 0 + i * 11, none⟩), .int .i64 k]) Tryd.func59 rfl 48 rfl rfl [.cell 4 46, .tmp 5] rfl ?_
  intro b4 w1 n1
  have e1 := n1.num; have z1 := n1.size
  have B4 : Blk w1 b4 (wcells zeros8) 46 := n1.blk
  refine cut_rule (α := Nat) (fun b6 => [(0, .pointer (some ⟨bl, 0 + i * 11, none⟩)), (1, .int .i64 k), (4, .pointer (some ⟨b4, 0, none⟩)), (6, .pointer (some ⟨b6, 0, none⟩)), (8, .int .i64 (fixE (fix r.1.ws r.1.code)))])
    (fun b6 W => Tr [] w1 W ∧ Blk W b6 (wcells (fixW (fix r.1.ws r.1.code))) 46 ∧ w1.heap.size ≤ b6) ?_ ?_
  · refine draw_rule cx_ok [] (Plan.takes [0, 1, 2, 3, 4, 5, 6, 7, 8, 9] (.alt true 10 (Plan.takes [11, 12, 13, 14] (.one true 15 (.one true 16 (Plan.takes [17, 18] .done))))
      (.alt true 15 (.one true 10 (Plan.takes [11, 12, 13, 14] (.one true 16 (Plan.takes [17, 18] .done)))) .stop))) (by kernel_rfl) ?_
    intro w2 d
    have zd := d.tr.size
    refine ⟨_, fun w' t => (h.words hr).tr (n1.tr.ext t) (by simp), wcells_len hok.ws, _, fun w' t => (n1.tr.ext t).cell (h.code hr) (by simp), ?_⟩
    refine ⟨?_, ?_, trivial⟩
    · refine call (Fix_calls r.1.ws hok.ws r.1.code hok.code w2 ((hg.ext n1.tr).ext d.tr)) ?_
      rintro v w3 ⟨hv, t3⟩
      rw [fixVal_eq] at hv
      subst hv
      refine ⟨d.tr.ext t3, ?_⟩
      refine ⟨?_, trivial⟩
      intro b6 w4 n6
      have e6 := n6.num; have z3 := t3.size; have z6 := n6.size
      refine ⟨(d.tr.ext t3).ext n6.tr, ?_⟩
      refine ⟨⟨_, _, n6.blk, hlw, by show 0 + 8 ≤ 8; decide, wcells_one _, fun w5 u5 => ?_⟩, trivial⟩
      have t5 := u5.ext ((d.tr.ext t3).ext n6.tr) (by omega)
      have B6 : Blk w5 b6 (wcells (fixW (fix r.1.ws r.1.code))) 46 := Upd.whole u5 rfl hlw
      exact ⟨t5, rfl, b6, ⟨rfl, rfl, rfl, rfl, rfl, trivial⟩, t5, B6, by omega⟩
    · intro b6 w3 n6
      have e6 := n6.num; have z6 := n6.size
      refine ⟨d.tr.ext n6.tr, ?_⟩
      refine ⟨?_, trivial⟩
      refine call (Fix_calls r.1.ws hok.ws r.1.code hok.code w3 (((hg.ext n1.tr).ext d.tr).ext n6.tr)) ?_
      rintro v w4 ⟨hv, t4⟩
      rw [fixVal_eq] at hv
      subst hv
      refine ⟨(d.tr.ext n6.tr).ext t4, ?_⟩
      refine ⟨⟨_, _, n6.blk.ext t4, hlw, by show 0 + 8 ≤ 8; decide, wcells_one _, fun w5 u5 => ?_⟩, trivial⟩
      have t5 := u5.ext ((d.tr.ext n6.tr).ext t4) (by omega)
      have B6 : Blk w5 b6 (wcells (fixW (fix r.1.ws r.1.code))) 46 := Upd.whole u5 rfl hlw
      exact ⟨t5, rfl, b6, ⟨rfl, rfl, rfl, rfl, rfl, trivial⟩, t5, B6, by omega⟩
  rintro b6 w2 ⟨t2, B6, hb6⟩
  have z2 := t2.size
  have C4 := B4.ext t2
  have tw2 := n1.tr.ext t2
  cases hf : fix r.1.ws r.1.code with
  | none =>
    have hsh : r.1.shows k = none := by unfold Ln.shows; rw [hf]; rfl
    rw [hsh]
    refine ⟨fun h => absurd h (by show ¬ ((9 : Int) = 0); decide), fun _ => ?_⟩
    refine ⟨_, rfl, _, _, C4, rfl, by show 0 + 8 ≤ 8; decide, rfl, fun w5 u5 => ⟨_, u5.blk.all, rfl, rfl, u5.ext tw2 (by omega)⟩⟩
  | some q =>
    have hsh : r.1.shows k = some (lay q.1 (r.1.pend.take k)) := by unfold Ln.shows; rw [hf]; rfl
    rw [hf] at B6 hw8
    rw [hsh]
    refine ⟨fun _ => ?_, fun h => absurd rfl h⟩
    have hpc := h.ext tw2 |>.pcell hr
    -- the end
    have fin : ∀ W : World, Tr [] w W → Tr [b6] w2 W → Blk W b6 (wcells (lay q.1 (r.1.pend.take k))) 46 →
        ∃ cs, Cells W b6 0 cs ∧ cs.length = 8 ∧ (StN W b4 0 8 cs.toArray.toList fun W' => ∃ cs2, Cells W' b4 0 cs2 ∧ cs2.length = 8 ∧
          (pack [.agg cs2.toArray, .int .i64 0] = .tuple #[.agg (optCells (some (lay q.1 (r.1.pend.take k)))).toArray, .int .i64 (optErr (some (lay q.1 (r.1.pend.take k))))] ∧ Tr [] w W')) := by
      intro W tW tW2 BW
      have hl8 : Line8 (lay q.1 (r.1.pend.take k)) := lay_ok hw8 fun p hp => hok.pend p (List.mem_of_mem_take hp)
      exact ⟨_, BW.all, wcells_len hl8, _, _, C4.tr tW2 (by simp; omega), wcells_len hl8, by show 0 + 8 ≤ 8; decide, wcells_one _, fun w5 u5 => ⟨_, (Upd.whole u5 rfl (wcells_len hl8)).all, wcells_len hl8, rfl, u5.ext tW (by omega)⟩⟩
    rcases Row.elem hrow with ⟨hv, hn⟩ | ⟨g, cap, hv, hn, hm, hcs⟩
    · obtain rfl : k = 0 := by omega
      rw [hv] at hpc
      refine ⟨_, hpc, 0, 0, rfl, rfl, by omega, by omega, ?_⟩
      refine loop_rule cx_ok (fun (_ : Unit) W => w2 = W) (fun _ => [(4, .pointer (some ⟨b4, 0, none⟩)), (6, .pointer (some ⟨b6, 0, none⟩)), (36, .int .i64 0), (37, .int .i64 0)]) (fun _ => 0) () ⟨rfl, rfl, rfl, rfl, trivial⟩ rfl ?_
      rintro _ _ rfl
      refine ⟨fun h => absurd h (by decide), fun _ => ?_⟩
      exact fin w2 tw2 (Tr.refl _ _) (by simpa [lay, fixW] using B6)
    rw [hv] at hpc
    refine ⟨_, hpc, 0, k, rfl, rfl, by omega, by omega, ?_⟩
    rw [sadr_zero]
    have hk63 : k ≤ 9223372036854775807 := by simp only [maxLen] at hm; omega
    refine loop_rule cx_ok (fun j W => j ≤ k ∧ Tr [] w W ∧ Tr [b6] w2 W ∧ Blk W b6 (wcells (lay q.1 (r.1.pend.take j))) 46)
      (fun j : Nat => [(4, .pointer (some ⟨b4, 0, none⟩)), (6, .pointer (some ⟨b6, 0, none⟩)), (35, .slice (some ⟨g, 0, none⟩) (k - 0) (cap - 0)), (36, .int .i64 k), (37, .int .i64 j)]) (fun j => k - j) 0 ⟨rfl, rfl, rfl, rfl, rfl, trivial⟩ ⟨by omega, tw2, Tr.refl _ _, by simpa [lay, fixW] using B6⟩ ?_
    rintro j W ⟨hj, tW, tW2, BW⟩
    have zW := tW2.size
    refine ⟨fun hlt => ?_, fun hge => ?_⟩
    · have hjk : j < k := by omega
      have hjp : j < r.1.pend.length := by omega
      have hq : r.1.pend[j]? = some r.1.pend[j] := List.getElem?_eq_getElem hjp
      obtain ⟨hc0, hc1⟩ := pcells_get hq
      have hqok := hok.pend _ (List.mem_of_getElem? hq)
      refine ⟨j, rfl, (by show j < k - 0; omega), [.int .i64 (r.1.pend[j].1 : Nat), .int .i64 (r.1.pend[j].2 : Nat)], ?_, rfl, ?_⟩
      · intro x v hx
        refine tW.cell ?_ (by simp)
        rcases x with _ | _ | x
        · simp only [List.getElem?_cons_zero, Option.some.injEq] at hx
          subst hx
          have := hcs _ _ hc0
          rw [Nat.zero_add] at this
          rw [show 0 + j * 2 + 0 = j * 2 by omega]; exact this
        · simp only [Nat.zero_add, List.getElem?_cons_succ, List.getElem?_cons_zero, Option.some.injEq] at hx
          subst hx
          have := hcs _ _ hc1
          rw [Nat.zero_add] at this
          rw [show 0 + j * 2 + (0 + 1) = j * 2 + 1 by omega]; exact this
        · simp at hx
      intro b10 w3 n10
      have e10 := n10.num; have z10 := n10.size
      refine ⟨_, _, n10.blk, rfl, by show 0 + 2 ≤ 2; decide, rfl, fun w4 u4 => ?_⟩
      have z4 := u4.size
      have B10 := u4.blk
      refine ⟨_, B10.cell rfl, _, B10.cell rfl, r.1.pend[j].1, rfl, hqok.1, ?_⟩
      have BW4 := (BW.ext n10.tr).tr u4.tr (by simp; have := BW.lt; omega)
      have hl8 : Line8 (lay q.1 (r.1.pend.take j)) := lay_ok hw8 fun p hp => hok.pend p (List.mem_of_mem_take hp)
      refine ⟨_, _, BW4, by rw [wcells_len hl8]; show 0 + r.1.pend[j].1 * 1 < 8; omega, rfl, fun w5 u5 => ?_⟩
      refine ⟨((j + 1 : Nat) : Int), by rw [w64 (by omega)]; omega, ?_⟩
      have t4 : Tr [] W w4 := u4.ext n10.tr (by omega)
      refine ⟨rfl, j + 1, ⟨rfl, rfl, rfl, rfl, rfl, trivial⟩, ⟨by omega, ?_, ?_, ?_⟩, by omega⟩
      · exact u5.ext (tW.ext t4) (by omega)
      · exact (tW2.trans t4 (fun _ h => h) (fun _ h _ => by cases h)).trans u5.tr (fun _ h => h) (fun _ h _ => h)
      · have := u5.blk
        rw [show 0 + r.1.pend[j].1 * 1 = r.1.pend[j].1 by omega, ← wcells_set, ← lay_snoc] at this
        rw [List.take_succ_eq_append_getElem hjp]
        exact this
    · obtain rfl : j = k := by omega
      exact fin W tW tW2 BW

theorem Row.slice {e size n : Nat} {v : Value} {xs : List Value} (h : Row w e size v n xs) : ∃ a c, v = .slice a n c := by
  rcases Row.elem h with ⟨rfl, rfl⟩ | ⟨g, cap, rfl, _⟩
  · exact ⟨_, _, rfl⟩
  · exact ⟨_, _, rfl⟩

/-- What Load returns of a word that there is. -/
def loadV (o : Option (List Nat)) (j : Nat) : Value :=
  match o with
  | some ws => .tuple #[.int .i64 (ws.getD j 0 : Nat), .int .i64 0]
  | none => .tuple #[.int .i64 0, .int .i64 9]

theorem Load_calls (h : MemX w p bl bm rows evv span nev) (hg : Gl w) (i j : Nat) (hj : j < 8) {r : Ln × Value} (hr : rows[i]? = some r) :
    Calls cx.P 58 #[.pointer (some ⟨p, 0, none⟩), .int .i64 (8 * i + j : Nat)] w (Ret fun v w' => v = loadV (r.1.shows r.1.pend.length) j ∧ Tr [] w w') := by
  have hi : i < rows.length := (List.getElem?_eq_some_iff.1 hr).1
  have hsm := h.small
  have hok := h.ok r (List.mem_of_getElem? hr)
  have hrow := h.pend r (List.mem_of_getElem? hr)
  obtain ⟨a, c, hv⟩ := Row.slice hrow
  have hpc := h.pcell hr
  rw [hv] at hpc
  have hdiv : IntKind.i64.wrap (((8 * i + j : Nat) : Int).tdiv 8) = (i : Int) := by rw [IntWalk.i64_quo _ _ (by omega)]; omega
  refine calls_body cx_ok (args := [.pointer (some ⟨p, 0, none⟩), .int .i64 (8 * i + j : Nat)]) Tryd.func58 rfl 41 rfl rfl [.tmp 4, .tmp 5] rfl ?_
  refine ⟨fun h0 => absurd h0 (by omega), fun _ => ?_⟩
  refine ⟨_, by decide, hdiv, ?_⟩
  refine call (has_calls h i) ?_
  rintro v _ ⟨hv', rfl⟩
  rw [decide_eq_true (by omega)] at hv'
  subst hv'
  refine ⟨_, h.head.cell rfl, _, by decide, hdiv, i, rfl, hi, _, hpc, ?_⟩
  refine call (shows_calls h hg i r.1.pend.length hr (Nat.le_refl _)) ?_
  rintro _ w1 ⟨rfl, t1⟩
  intro b7 w2 n7
  have e7 := n7.num; have z7 := n7.size; have z1 := t1.size
  obtain ⟨o, ho⟩ : ∃ o, o = r.1.shows r.1.pend.length := ⟨_, rfl⟩
  rw [← ho]
  have hlen : (optCells o).length = 8 := by
    rcases o with _ | ws
    · rfl
    · exact wcells_len (hok.shows ho.symm)
  have hone : (optCells o).all E.one = true := by
    rcases o with _ | ws
    · rfl
    · exact wcells_one _
  refine ⟨_, _, n7.blk, hlen, by show 0 + 8 ≤ 8; decide, hone, fun w3 u3 => ?_⟩
  have B7 : Blk w3 b7 (optCells o) 46 := Upd.whole u3 rfl hlen
  have t3 := u3.ext (t1.ext n7.tr) (by omega)
  rcases o with _ | ws
  · refine ⟨fun h0 => absurd h0 (by show ¬ ((9 : Int) = 0); decide), fun _ => ?_⟩
    exact ⟨rfl, t3⟩
  · refine ⟨fun _ => ?_, fun h0 => absurd rfl h0⟩
    obtain ⟨x, hx, hx40, hgd, hxc⟩ := (hok.shows ho.symm).at hj
    have hcell : w3.cell? ⟨b7, 0 + j * 1, none⟩ = some (.int .i64 (x : Nat)) := by
      rw [show 0 + j * 1 = j by omega]
      exact B7.cell hxc
    refine ⟨(j : Int), by decide, by rw [IntWalk.rem_in _ _ (by omega)]; omega, j, rfl, hj, _, hcell, ?_⟩
    · refine ⟨?_, t3⟩
      show _ = Value.tuple #[.int .i64 (ws.getD j 0 : Nat), .int .i64 0]
      rw [hgd]
      rfl

end

end Go.Proofs.YtlfolinjajjgjaaDoor
