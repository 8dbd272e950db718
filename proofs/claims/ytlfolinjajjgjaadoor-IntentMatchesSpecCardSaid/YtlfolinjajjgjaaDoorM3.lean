/- Contracts of slices.Clone, of rest and of settle. -/
import Derived.Test.YtlfolinjajjgjaaDoorM2
namespace Go.Proofs.YtlfolinjajjgjaaDoor
open Go.E

theorem eql_nil {t e : Nat} {x : TI} (ht : tget cx.tb t = some x) (hx : x.kd = .slice e) (p q : Operand) (a : Option Addr) (n c : Nat) (w : World) :
    (do eqGuard .eql t p q (.slice a n c) (.slice none 0 0); binOp .eql t (.slice a n c) (.slice none 0 0) : Sem Value).run cx.P w = .ok (.bool a.isNone) w := by
  have hu := run_under_slice cx_ok ht hx w
  have he : (Op.equal t (.slice a n c) (.slice none 0 0)).run cx.P w = .ok a.isNone w := by
    show (Op.equalIn (9999 + 1) t (.slice a n c) (.slice none 0 0)).run cx.P w = _
    unfold Op.equalIn
    simp only [Sem.run_bind, hu, Result.andThen_ok]
    cases a <;> rfl
  simp [eqGuard, binOp, he]

theorem row_empty {w w' : World} {b e size : Nat} (n : New w b (.cells ([] : List Value).toArray e) w') : Row w' e size (.slice (some ⟨b, 0, none⟩) 0 0) 0 [] :=
  ⟨by simp, .inr ⟨b, 0, #[], rfl, Nat.zero_le _, n.get, Nat.le_refl _, Nat.zero_le _, by simp, by simp⟩⟩

theorem clone_store_calls (w : World) (g o n c : Nat) (xs : List Value) (hl : xs.length = n * 2) (hc : Cells w g o xs) (h1 : xs.all E.one = true) (hn : n ≤ 1099511627776) :
    Calls cx.P 39 #[.slice (some ⟨g, o, none⟩) n c] w (Ret fun v w' => Row w' 89 2 v n xs ∧ Tr [] w w' ∧ ∃ b, v.ownBlock = some b ∧ w.heap.size ≤ b) := by
  refine calls_body cx_ok (args := [.slice (some ⟨g, o, none⟩) n c]) Tryd.func39 rfl 8 rfl rfl [.tmp 2] rfl ?_
  refine ⟨.bool false, w, eql_nil (t := 44) rfl rfl _ _ _ _ _ _, ?_⟩
  refine ⟨[], rfl, fun b w1 n1 => ?_⟩
  have e1 := n1.num; have z1 := n1.size
  refine append_own cx_ok (x := ⟨1, 24, false, [.slice none 0 0], .slice 89⟩) rfl rfl rfl (by decide) (row_empty n1) g o n c xs hl (hc.ext n1.tr) h1 (by omega) (by decide) ?_
  intro v w2 hv t2 hat _
  refine ⟨by simpa using hv, n1.tr.trans t2 (fun _ h => h) (fun c hc hlt => ?_), ?_⟩
  · simp [Value.ownBlock] at hc; omega
  · rcases hat with e | e
    · exact ⟨b, e, by omega⟩
    · exact ⟨_, e, by omega⟩

/-- What 'rest' does with the map of the busy lines: J is what is known of it ahead, J' behind. -/
structure Rest (bl bm : Nat) (i : Nat) (empty : Bool) (J J' : World → Prop) : Prop where
  keep : ∀ W W', J W → Tr [bl] W W' → J W'
  del : empty = true → ∀ W (ty : Nat) (K : Value → World → Prop), J W → (∀ o W', Upd W bm o W' → J' W' → K (.tuple #[]) W') → RunV cx.P (Builtin.delete_ #[70, 3] ty #[.map (some bm), .int .i64 (i : Nat)]) W K
  upd : empty = false → ∀ W (K : World → Prop), J W → (∀ o W', Upd W bm o W' → J' W' → K W') → RunU cx.P (Instr.mapUpdate 70 (.map (some bm)) (.int .i64 (i : Nat)) (.bool true)) W K

section
variable {w : World} {p bl bm : Nat} {rows : List (Ln × Value)} {evv : Value} {span nev : Nat}

theorem rest_calls {n : Nat} {sp ev : Value} (hh : Blk w p [.slice (some ⟨bl, 0, none⟩) n n, .map (some bm), sp, ev] 73) {i len c : Nat} {a : Option Addr} (hi : i < n)
    (hp : w.cell? ⟨bl, 0 + i * 11 + 9, none⟩ = some (.slice a len c)) {J J' : World → Prop} (hR : Rest bl bm i (decide (len = 0)) J J') (hJ : J w) :
    Calls cx.P 60 #[.pointer (some ⟨p, 0, none⟩), .int .i64 (i : Nat)] w (Ret fun _ w' => J' w' ∧ Tr [bm] w w') := by
  refine calls_body cx_ok (args := [.pointer (some ⟨p, 0, none⟩), .int .i64 (i : Nat)]) Tryd.func60 rfl 24 rfl rfl [] rfl ?_
  refine ⟨_, hh.cell rfl, i, rfl, hi, _, hp, fun h0 => ?_, fun h0 => ?_⟩
  · have h0' : len = 0 := by omega
    refine ⟨_, hh.cell rfl, ?_⟩
    exact hR.del (by simp [h0']) w _ _ hJ fun o w' u hJ' => ⟨hJ', u.tr⟩
  · have h0' : len ≠ 0 := by omega
    refine ⟨_, hh.cell rfl, ?_⟩
    exact hR.upd (by simp [h0']) w _ hJ fun o w' u hJ' => ⟨hJ', u.tr⟩

theorem pcells_drop (ps : List (Nat × Nat)) (k : Nat) : pcells (ps.drop k) = (pcells ps).drop (k * 2) := by
  induction ps generalizing k with
  | nil => simp [pcells]
  | cons p r ih =>
    cases k with
    | zero => simp
    | succ k =>
      have e : (k + 1) * 2 = k * 2 + 1 + 1 := by omega
      have e2 : pcells (p :: r) = .int .i64 (p.1 : Nat) :: .int .i64 (p.2 : Nat) :: pcells r := rfl
      rw [List.drop_succ_cons, ih k, e, e2, List.drop_succ_cons, List.drop_succ_cons]

theorem lcells_words (r : Ln × Value) (h : r.1.Ok) (ws : List Nat) (h8 : Line8 ws) : lcells ({ r.1 with ws := ws }, r.2) = (lcells r).take 0 ++ (wcells ws ++ (lcells r).drop (0 + 8)) := by
  have hl := wcells_len h.ws
  simp only [lcells, List.take_zero, List.nil_append, Nat.zero_add]
  rw [List.drop_append_of_le_length (by omega), List.drop_of_length_le (by omega)]
  simp

theorem lcells_tail {r r' : Ln × Value} (hw : r'.1.ws = r.1.ws) (h : r.1.ws.length = 8) (j : Nat) (v : Value) (ht : [.int .i64 (r'.1.code : Nat), r'.2, .int .i64 (r'.1.mark : Nat)] = ([.int .i64 (r.1.code : Nat), r.2, .int .i64 (r.1.mark : Nat)] : List Value).set j v) (hj : j < 3) :
    lcells r' = (lcells r).set (8 + j) v := by
  have hl : (wcells r.1.ws).length = 8 := by simp [wcells, h]
  unfold lcells
  rw [hw, ht, List.set_append, if_neg (by omega), hl, Nat.add_sub_cancel_left]

/-- One cell of a line. -/
theorem line_set {L : List (Ln × Value)} (hL : ∀ r ∈ L, (lcells r).length = 11) {i j : Nat} {r r' : Ln × Value} {v : Value} (hr : L[i]? = some r) (hj : j < 11) (hs : lcells r' = (lcells r).set j v) :
    (L.flatMap lcells).set (i * 11 + j) v = (L.set i r').flatMap lcells := by
  have hlr := hL r (List.mem_of_getElem? hr)
  have hlen := fm_len hL
  have hi : i < L.length := (List.getElem?_eq_some_iff.1 hr).1
  have := fm_splice (f := lcells) (k := 11) (o := j) (n := 1) (vs := [v]) _ rfl hL hr (by omega) (a' := r') (by
    rw [hs, ← splice_one (by omega)]
    rfl)
  rw [← this]
  have h2 := splice_one (l := L.flatMap lcells) (o := i * 11 + j) (v := v) (by rw [hlen]; omega)
  rw [← h2]
  rfl

theorem line_words {L : List (Ln × Value)} (hL : ∀ r ∈ L, (lcells r).length = 11) {i : Nat} {r : Ln × Value} (hr : L[i]? = some r) (hok : r.1.Ok) (ws : List Nat) (h8 : Line8 ws) :
    splice (L.flatMap lcells) (i * 11) 8 (wcells ws) = (L.set i ({ r.1 with ws := ws }, r.2)).flatMap lcells := by
  have := fm_splice (f := lcells) (k := 11) (o := 0) (n := 8) (vs := wcells ws) _ rfl hL hr (by omega) (a' := ({ r.1 with ws := ws }, r.2)) (lcells_words r hok ws h8)
  rw [← this]
  rfl

theorem optCells_shown {l : Ln} {k : Nat} : optCells (l.shows k) = wcells (l.shown k) := by
  unfold Ln.shown
  cases l.shows k <;> rfl

end

end Go.Proofs.YtlfolinjajjgjaaDoor
