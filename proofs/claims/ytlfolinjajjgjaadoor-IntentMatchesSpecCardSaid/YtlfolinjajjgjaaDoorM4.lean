/- Contract of settle. -/
import Derived.Test.YtlfolinjajjgjaaDoorM3
namespace Go.Proofs.YtlfolinjajjgjaaDoor
open Go.E

theorem lens_set {L : List (Ln × Value)} (hL : ∀ r ∈ L, (lcells r).length = 11) {i : Nat} {r' : Ln × Value} (h : (lcells r').length = 11) : ∀ r ∈ L.set i r', (lcells r).length = 11 := fun r hr => by
  rcases List.mem_or_eq_of_mem_set hr with hr | rfl
  · exact hL r hr
  · exact h

theorem lw_cell {w : World} {bl T : Nat} {L : List (Ln × Value)} (hL : ∀ r ∈ L, (lcells r).length = 11) (B : Blk w bl (L.flatMap lcells) T) {i : Nat} {r : Ln × Value} (hr : L[i]? = some r) {j : Nat} {v : Value} (hv : (lcells r)[j]? = some v) :
    w.cell? ⟨bl, i * 11 + j, none⟩ = some v := B.cell (fm_get hL hr hv)

theorem lw_words {w : World} {bl T : Nat} {L : List (Ln × Value)} (hL : ∀ r ∈ L, (lcells r).length = 11) (B : Blk w bl (L.flatMap lcells) T) {i : Nat} {r : Ln × Value} (hr : L[i]? = some r) : Cells w bl (0 + i * 11 + 0 + 0) (wcells r.1.ws) := fun j v hv => by
  rw [show 0 + i * 11 + 0 + 0 + j = i * 11 + j by omega]
  refine lw_cell hL B hr ?_
  unfold lcells
  rw [List.getElem?_append_left (List.getElem?_eq_some_iff.1 hv).1]
  exact hv

theorem get_set {L : List (Ln × Value)} {i : Nat} {r : Ln × Value} (hi : i < L.length) : (L.set i r)[i]? = some r := by simp [hi]

theorem max_run (P : Program) (a b : Int) (t : Nat) (ats : Array TypeId) (w : World) : (Builtin.max_ ats t #[.int .i64 a, .int .i64 b]).run P w = .ok (.int .i64 (if b > a then b else a)) w := by
  simp [Builtin.max_, Builtin.max2]

section
variable {w : World} {p bl bm : Nat} {rows : List (Ln × Value)} {evv : Value} {span nev : Nat}

theorem settle0_calls (h : MemX w p bl bm rows evv span nev) (i : Nat) (hi : i < rows.length) :
    Calls cx.P 40 #[.pointer (some ⟨p, 0, none⟩), .int .i64 (i : Nat), .int .i64 (0 : Nat)] w (Ret fun _ w' => w = w') := by
  refine calls_body cx_ok (args := [.pointer (some ⟨p, 0, none⟩), .int .i64 (i : Nat), .int .i64 (0 : Nat)]) Tryd.func40 rfl 58 rfl rfl [] rfl ?_
  refine ⟨_, h.head.cell rfl, i, rfl, hi, fun _ => ?_, fun h0 => absurd rfl h0⟩
  rfl

set_option maxHeartbeats 1000000 in
theorem settle_calls (h : MemX w p bl bm rows evv span nev) (hg : Gl w) (i k : Nat) {r : Ln × Value} (hr : rows[i]? = some r) (hk : k ≤ r.1.pend.length) (hk0 : k ≠ 0) (hsm : r.1.pend.length ≤ 1099511627776)
    {J J' : World → Prop} (hR : Rest bl bm i (decide (r.1.pend.length - k = 0)) J J') (hJ : J w) :
    Calls cx.P 40 #[.pointer (some ⟨p, 0, none⟩), .int .i64 (i : Nat), .int .i64 (k : Nat)] w
      (Ret fun _ w' => ∃ v', MemX w' p bl bm (rows.set i (r.1.settle k, v')) evv span nev ∧ J' w' ∧ Tr [bl, bm] w w' ∧ ∀ b, v'.ownBlock = some b → w.heap.size ≤ b) := by
  have hi : i < rows.length := (List.getElem?_eq_some_iff.1 hr).1
  have hmem := List.mem_of_getElem? hr
  have hok := h.ok r hmem
  have hrow := h.pend r hmem
  have hL := h.lens
  have hlen := fm_len hL
  obtain ⟨n1, n2, n3⟩ := h.ne
  have hs8 := hok.shown k
  have hmark := hok.mark
  obtain ⟨L, hLd⟩ : ∃ L, L = rows.flatMap lcells := ⟨_, rfl⟩
  rcases Row.elem hrow with ⟨_, hn⟩ | ⟨g, cap, hv, hncap, hcapm, hcs⟩
  · omega
  have hgb : r.2.ownBlock = some g := by rw [hv]; rfl
  have hgl : g < w.heap.size := Row.lt hrow hgb
  obtain ⟨g1, g2, g3, _⟩ := h.row_ne hr hgb
  refine calls_body cx_ok (args := [.pointer (some ⟨p, 0, none⟩), .int .i64 (i : Nat), .int .i64 (k : Nat)]) Tryd.func40 rfl 58 rfl rfl [] rfl ?_
  refine ⟨_, h.head.cell rfl, i, rfl, hi, fun h0 => absurd h0 (by omega), fun _ => ?_⟩
  refine call (shows_calls h hg i k hr hk) ?_
  rintro _ w1 ⟨rfl, t1⟩
  have hso : (optCells (r.1.shows k)).length = 8 := by rw [optCells_shown]; exact wcells_len hs8
  refine ⟨_, _, h.lines.ext t1, hso, by rw [hlen]; show 0 + i * 11 + 0 + 0 + 8 ≤ _; omega, by rw [optCells_shown]; exact wcells_one _, fun w2 u2 => ?_⟩
  -- the words
  obtain ⟨r1, hr1⟩ : ∃ r1 : Ln × Value, r1 = ({ r.1 with ws := r.1.shown k }, r.2) := ⟨_, rfl⟩
  have ok1 : r1.1.Ok := by rw [hr1]; exact ⟨hs8, hok.code, hok.pend, hok.mark⟩
  have B2 : Blk w2 bl (splice (rows.flatMap lcells) (0 + i * 11 + 0 + 0) 8 (optCells (r.1.shows k))) 69 := u2.blk
  rw [show 0 + i * 11 + 0 + 0 = i * 11 by omega, optCells_shown, line_words hL hr hok _ hs8, ← hr1] at B2
  have hL1 := lens_set (i := i) hL (lcells_len ok1)
  have T2 : Tr [bl] w w2 := t1.of_ext.same u2.tr
  have hi1 : i < (rows.set i r1).length := by simpa using hi
  refine ⟨_, by simpa [hr1] using lw_words hL1 B2 (get_set hi), wcells_len hs8, ?_⟩
  have g2' : Gl w2 := hg.tr T2 (by simp; exact h.ge bl in_bl)
  refine call (Encode_calls (r.1.shown k) hs8 w2 g2') ?_
  rintro _ w3 ⟨rfl, t3⟩
  have B3 := B2.ext t3
  refine ⟨_, _, B3, by rw [fm_len hL1]; show 0 + i * 11 + 0 + 8 < _; omega, rfl, fun w4 u4 => ?_⟩
  -- the code
  obtain ⟨r2, hr2⟩ : ∃ r2 : Ln × Value, r2 = ({ r1.1 with code := enc (r.1.shown k) }, r1.2) := ⟨_, rfl⟩
  have ok2 : r2.1.Ok := by rw [hr2]; exact ⟨ok1.ws, enc_lt _, ok1.pend, ok1.mark⟩
  have B4 : Blk w4 bl (((rows.set i r1).flatMap lcells).set (0 + i * 11 + 0 + 8) (.int .i64 (enc (r.1.shown k) : Nat))) 69 := u4.blk
  rw [show 0 + i * 11 + 0 + 8 = i * 11 + 8 by omega, line_set (j := 8) (r' := r2) hL1 (get_set hi) (by omega) (lcells_tail (j := 0) (by rw [hr2]) ok1.ws.len _ (by rw [hr2]; rfl) (by omega)), List.set_set] at B4
  have hL2 := lens_set (i := i) hL (lcells_len ok2)
  have T4 : Tr [bl] w w4 := (T2.trans t3 (fun _ h => h) (fun _ h _ => by cases h)).same u4.tr
  have hp4 : w4.cell? ⟨bl, 0 + i * 11 + 9, none⟩ = some (.slice (some ⟨g, 0, none⟩) r.1.pend.length cap) := by
    rw [show 0 + i * 11 + 9 = i * 11 + 9 by omega]
    refine lw_cell hL2 B4 (get_set hi) ?_
    rw [lcells_pend ok2, hr2, hr1, ← hv]
  refine ⟨_, hp4, k, r.1.pend.length, rfl, rfl, hk, hncap, ?_⟩
  obtain ⟨o, ho, hco⟩ : ∃ o, sadr g 0 k 2 cap = ⟨g, o, none⟩ ∧ Cells w4 g o (pcells (r.1.pend.drop k)) := by
    unfold sadr
    by_cases hc : cap = k
    · rw [if_pos hc]
      refine ⟨0, rfl, ?_⟩
      rw [List.drop_of_length_le (by omega)]
      intro i v hv
      simp [pcells] at hv
    · rw [if_neg hc]
      refine ⟨0 + k * 2, rfl, fun j v hv => ?_⟩
      rw [pcells_drop, List.getElem?_drop] at hv
      have := hcs _ _ hv
      have := T4.cell this (by simp; omega)
      rw [show 0 + k * 2 + j = 0 + (k * 2 + j) by omega]
      exact this
  rw [show sadr g 0 k _ cap = _ from ho]
  refine call (clone_store_calls w4 g o (r.1.pend.length - k) (cap - k) (pcells (r.1.pend.drop k)) (by rw [pcells_len, List.length_drop]) hco (pcells_one _) (by omega)) ?_
  rintro v' w5 ⟨hv', t5, b', hb', hbf⟩
  have z4 := T4.size
  have B5 := B4.ext t5
  refine ⟨_, _, B5, by rw [fm_len hL2]; show 0 + i * 11 + 9 < _; simp; omega, Row.one hv', fun w6 u6 => ?_⟩
  -- the pending stores
  obtain ⟨r3, hr3⟩ : ∃ r3 : Ln × Value, r3 = ({ r2.1 with pend := r.1.pend.drop k }, v') := ⟨_, rfl⟩
  have hlen3 : (lcells r3).length = 11 := by
    have : r3.1.ws = r.1.shown k := by rw [hr3, hr2, hr1]
    simp [lcells, this, wcells_len hs8]
  have B6 : Blk w6 bl (((rows.set i r2).flatMap lcells).set (0 + i * 11 + 9) v') 69 := u6.blk
  rw [show 0 + i * 11 + 9 = i * 11 + 9 by omega, line_set (j := 9) (r' := r3) hL2 (get_set hi) (by omega) (lcells_tail (j := 1) (by rw [hr3]) ok2.ws.len _ (by rw [hr3]; rfl) (by omega)), List.set_set] at B6
  have hL3 := lens_set (i := i) hL hlen3
  have T6 : Tr [bl] w w6 := (T4.trans t5 (fun _ h => h) (fun _ h _ => by cases h)).same u6.tr
  have hm6 : w6.cell? ⟨bl, 0 + i * 11 + 10, none⟩ = some (.int .i64 (r.1.mark : Nat)) := by
    rw [show 0 + i * 11 + 10 = i * 11 + 10 by omega]
    refine lw_cell hL3 B6 (get_set hi) ?_
    have : (wcells r3.1.ws).length = 8 := by
      have : r3.1.ws = r.1.shown k := by rw [hr3, hr2, hr1]
      rw [this]; exact wcells_len hs8
    have h2 := get_tail (t := [.int .i64 (r3.1.code : Nat), r3.2, .int .i64 (r3.1.mark : Nat)]) 8 this 2
    unfold lcells
    rw [h2, hr3, hr2, hr1]
    rfl
  refine ⟨_, hm6, ((r.1.mark : Int) - k), by rw [w64 (by omega)], _, w6, max_run _ _ _ _ _ _, ?_⟩
  have hmx : (if ((r.1.mark : Int) - k) > 0 then ((r.1.mark : Int) - k) else 0) = ((r.1.mark - k : Nat) : Int) := by split <;> omega
  rw [hmx]
  refine ⟨_, _, B6, by rw [fm_len hL3]; show 0 + i * 11 + 10 < _; simp; omega, rfl, fun w7 u7 => ?_⟩
  have B7 : Blk w7 bl (((rows.set i r3).flatMap lcells).set (0 + i * 11 + 10) (.int .i64 (r.1.mark - k : Nat))) 69 := u7.blk
  have hset : r.1.settle k = ⟨r.1.shown k, enc (r.1.shown k), r.1.pend.drop k, r.1.mark - k⟩ := by unfold Ln.settle; rw [if_neg hk0]
  have hws3 : r3.1.ws = r.1.shown k := by rw [hr3, hr2, hr1]
  rw [show 0 + i * 11 + 10 = i * 11 + 10 by omega, line_set (j := 10) (r' := (r.1.settle k, v')) hL3 (get_set hi) (by omega) (lcells_tail (j := 2) (by rw [hset, hws3]) (by rw [hws3]; exact hs8.len) _ (by rw [hset, hr3, hr2, hr1]; rfl) (by omega)), List.set_set] at B7
  have T7 : Tr [bl] w w7 := T6.same u7.tr
  have ok4 := hok.settle k
  have hL4 := lens_set (i := i) (r' := (r.1.settle k, v')) hL (lcells_len ok4)
  obtain ⟨a, c, hvs⟩ := Row.slice hv'
  have hp7 : w7.cell? ⟨bl, 0 + i * 11 + 9, none⟩ = some (.slice a (r.1.pend.length - k) c) := by
    rw [show 0 + i * 11 + 9 = i * 11 + 9 by omega, ← hvs]
    exact lw_cell hL4 B7 (get_set hi) (lcells_pend ok4)
  have hv7 : Row w7 89 2 v' (r.1.pend.length - k) (pcells (r.1.pend.drop k)) := Row.tr (Row.tr hv' u6.tr (by intro b hb hm; simp at hm; rw [hb'] at hb; have := Option.some.inj hb; have := h.lines.lt; omega)) u7.tr (by intro b hb hm; simp at hm; rw [hb'] at hb; have := Option.some.inj hb; have := h.lines.lt; omega)
  refine call (rest_calls (h.head.tr T7 (by simp; exact n1)) hi hp7 hR (hR.keep _ _ hJ T7)) ?_
  rintro _ w8 ⟨hJ8, t8⟩
  have T8 : Tr [bl, bm] w w8 := T7.trans t8 (fun _ h => by simp at h; simp [h]) (fun _ h _ => by simp at h; simp [h])
  have hfresh : ∀ b, v'.ownBlock = some b → w.heap.size ≤ b := fun b hb => by rw [hb'] at hb; have := Option.some.inj hb; omega
  have hbm := h.bmlt
  have hrow8 : Row w8 89 2 v' (r.1.settle k).pend.length (pcells (r.1.settle k).pend) := by
    rw [hset]
    show Row w8 _ 2 v' (r.1.pend.drop k).length _
    rw [List.length_drop]
    exact Row.tr hv7 t8 fun b hb hm => by have := hfresh b hb; simp at hm; omega
  obtain ⟨m1, _⟩ := h.set hr T8 (fun b hb => by simp at hb; rcases hb with e | e <;> simp [e]) (B7.tr t8 (by simp; exact n3)) hrow8 ok4 (fun b hb => .inr (hfresh b hb))
  exact ⟨v', m1, hJ8, T8, hfresh⟩

end

end Go.Proofs.YtlfolinjajjgjaaDoor
