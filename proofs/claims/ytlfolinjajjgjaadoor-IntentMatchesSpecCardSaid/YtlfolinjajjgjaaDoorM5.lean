/- Contracts of Flush, put, Store and Fence. -/
import Derived.Test.YtlfolinjajjgjaaDoorM4
namespace Go.Proofs.YtlfolinjajjgjaaDoor
open Go.E

/-! The map of the busy lines -/

theorem busyM_set {rows : List (Ln × Value)} {i : Nat} {r' : Ln × Value} (hi : i < rows.length) : busyM (rows.set i r') = if r'.1.pend = [] then delM (busyM rows) (i : Nat) else setM (busyM rows) (i : Nat) (.bool true) := by
  funext k
  rcases k with n | n
  · show busyM (rows.set i r') ((n : Nat) : Int) = _
    by_cases hn : n = i
    · subst hn
      have : (rows.set n r')[n]? = some r' := by simp [hi]
      unfold busyM
      simp only [this]
      split <;> simp_all [delM, setM]
    · have h1 : (rows.set i r')[n]? = rows[n]? := by rw [List.getElem?_set, if_neg (fun e => hn e.symm)]
      have h2 : ¬ (Int.ofNat n = (i : Int)) := fun e => hn (Int.ofNat.inj e)
      have h3 : busyM (rows.set i r') (Int.ofNat n) = busyM rows (Int.ofNat n) := by unfold busyM; simp only [h1]
      show busyM (rows.set i r') (Int.ofNat n) = _
      rw [h3]
      split
      · simp only [delM, if_neg h2]
      · simp only [setM, if_neg h2]
  · have h2 : ¬ (Int.negSucc n = (i : Int)) := fun e => by have := e; omega
    split
    · simp only [delM, if_neg h2]; rfl
    · simp only [setM, if_neg h2]; rfl

theorem rest_im {bl bm i : Nat} {m : Int → Option Value} {empty : Bool} (hne : bl ≠ bm) : Rest bl bm i empty (fun W => IM W bm m) (fun W => IM W bm (if empty then delM m (i : Nat) else setM m (i : Nat) (.bool true))) where
  keep W W' h t := h.tr t (by simp; exact fun e => hne e.symm)
  del he W ty K h hK := map_delete cx_ok (x := ⟨1, 8, false, [.map none], .map 3 4⟩) rfl rfl rfl rfl rfl h _ fun o W' u h' => hK o W' u (by rw [he]; exact h')
  upd he W K h hK := map_update cx_ok (x := ⟨1, 8, false, [.map none], .map 3 4⟩) rfl rfl rfl rfl h _ _ fun o W' u h' => hK o W' u (by rw [he]; exact h')

theorem rest_ir {bl bm it i cnt : Nat} {m : Int → Option Value} {left : Int → Prop} {empty : Bool} (hne : bl ≠ bm) (hit : it ≠ bl) (hleft : ¬ left (i : Nat)) (hin : m (i : Nat) ≠ none) :
    Rest bl bm i empty (fun W => IR W bm it m left cnt) (fun W => ∃ cnt', cnt' ≤ cnt ∧ IR W bm it (if empty then delM m (i : Nat) else setM m (i : Nat) (.bool true)) left cnt') where
  keep W W' h t := h.tr t (by simp; exact fun e => hne e.symm) (by simp; exact hit)
  del he W ty K h hK := map_delete_in cx_ok (x := ⟨1, 8, false, [.map none], .map 3 4⟩) rfl rfl rfl rfl rfl h _ hleft fun o W' cnt' u hc h' => hK o W' u ⟨cnt', hc, by rw [he]; exact h'⟩
  upd he W K h hK := map_update_in cx_ok (x := ⟨1, 8, false, [.map none], .map 3 4⟩) rfl rfl rfl rfl h _ _ hin fun o W' u h' => hK o W' u ⟨cnt, Nat.le_refl _, by rw [he]; exact h'⟩

section
variable {w : World} {p bl bm : Nat} {rows : List (Ln × Value)} {evv : Value} {span nev : Nat}

/-- The whole memory. -/
structure MemW (w : World) (p bl bm : Nat) (rows : List (Ln × Value)) (evv : Value) (span nev : Nat) : Prop extends MemX w p bl bm rows evv span nev where
  busy : IM w bm (busyM rows)

theorem MemW.ext {w' : World} (h : MemW w p bl bm rows evv span nev) (t : Tr [] w w') : MemW w' p bl bm rows evv span nev := ⟨h.toMemX.ext t, h.busy.tr t (by simp)⟩

theorem MemW.note {w' : World} {evv' : Value} (h : MemW w p bl bm rows evv span nev) (hx : MemX w' p bl bm rows evv' span (nev + 1)) (t : Tr (p :: evv.ownBlock.toList) w w') : MemW w' p bl bm rows evv' span (nev + 1) :=
  ⟨hx, h.busy.tr t (by
    have := h.ne
    simp only [List.mem_cons, Option.mem_toList, not_or]
    exact ⟨fun e => this.2.1 e.symm, fun e => (h.ev_ne e).2.2.1 rfl⟩)⟩

def Ln.flush (l : Ln) : Ln := { l with mark := l.pend.length }
theorem Ln.Ok.flush {l : Ln} (h : l.Ok) : l.flush.Ok := ⟨h.ws, h.code, h.pend, Nat.le_refl _⟩

theorem Flush_body (h : MemW w p bl bm rows evv span nev) (hnev : nev < 549755813888) (i : Nat) {r : Ln × Value} (hr : rows[i]? = some r) :
    wpC cx none 29 Tryd.f75.body.get! (BodyQ cx [.tmp 4] fun v w' => v = .int .i64 0 ∧ ∃ evv', MemW w' p bl bm (rows.set i (r.1.flush, r.2)) evv' span (nev + 1) ∧ Step w w' (foot p bl bm rows evv) (foot p bl bm (rows.set i (r.1.flush, r.2)) evv'))
      (argsEnv 0 [.pointer (some ⟨p, 0, none⟩), .int .i64 (i : Nat)]) [] w := by
  have hi : i < rows.length := (List.getElem?_eq_some_iff.1 hr).1
  have hmem := List.mem_of_getElem? hr
  have hok := h.ok r hmem
  have hrow := h.pend r hmem
  have hL := h.lens
  obtain ⟨n1, n2, n3⟩ := h.ne
  obtain ⟨a, c, hv⟩ := Row.slice hrow
  have hpc := h.pcell hr
  rw [hv] at hpc
  refine call (has_calls h.toMemX i) ?_
  rintro v _ ⟨hv', rfl⟩
  rw [decide_eq_true (by omega)] at hv'
  subst hv'
  refine draw_rule cx_ok [] (Plan.takes [0, 1, 2, 3, 4, 5, 6, 7, 8, 9, 10, 11, 12, 13] (.one true 14 (.one true 15 (.one false 16 .done)))) (by kernel_rfl) ?_
  intro w1 d
  refine ⟨_, fun w' t => t.cell (h.head.cell rfl) (by simp), _, fun w' t => t.cell (h.head.cell rfl) (by simp), i, rfl, hi, _, fun w' t => t.cell hpc (by simp), ?_⟩
  refine ⟨⟨i, rfl, hi, d.tr, ?_⟩, trivial⟩
  refine ⟨⟨d.tr, ?_⟩, trivial⟩
  have B1 := h.lines.ext d.tr
  refine ⟨⟨_, _, B1, by rw [fm_len hL]; show 0 + i * 11 + 10 < _; omega, rfl, fun w2 u2 => ?_⟩, trivial⟩
  have B2 : Blk w2 bl ((rows.flatMap lcells).set (0 + i * 11 + 10) (.int .i64 (r.1.pend.length : Nat))) 69 := u2.blk
  rw [show 0 + i * 11 + 10 = i * 11 + 10 by omega, line_set (j := 10) (r' := (r.1.flush, r.2)) hL hr (by omega) (lcells_tail (r' := (r.1.flush, r.2)) (r := r) (j := 2) rfl hok.ws.len (.int .i64 (r.1.pend.length : Nat)) rfl (by omega))] at B2
  have t2 : Tr [bl] w w2 := d.tr.of_ext.same u2.tr
  have hrow2 : Row w2 89 2 r.2 r.1.flush.pend.length (pcells r.1.flush.pend) := Row.tr hrow t2 fun b hb hm => (h.row_ne hr hb).2.1 (by simpa using hm)
  obtain ⟨m2, f2⟩ := h.set hr t2 (fun b hb => .inl (by simpa using hb)) B2 hrow2 hok.flush (fun b hb => .inl hb)
  have hbusy : busyM (rows.set i (r.1.flush, r.2)) = busyM rows := by
    rw [busyM_set hi]
    have e : busyM rows = busyM (rows.set i r) := by
      rw [← (List.getElem?_eq_some_iff.1 hr).2, List.set_getElem_self]
    conv => rhs; rw [e, busyM_set hi]
    rfl
  have mw2 : MemW w2 p bl bm (rows.set i (r.1.flush, r.2)) evv span nev := ⟨m2, by rw [hbusy]; exact h.busy.tr t2 (by simp; exact fun e => n3 e.symm)⟩
  refine ⟨_, rfl, ?_⟩
  refine call (note_calls m2 hnev _ rfl rfl) ?_
  rintro _ w3 ⟨evv', m3, t3, f3⟩
  refine ⟨rfl, evv', mw2.note m3 t3, ?_⟩
  have s12 : Step w w2 (foot p bl bm rows evv) (foot p bl bm (rows.set i (r.1.flush, r.2)) evv) := ⟨t2.mono fun b hb _ => by simp at hb; rw [hb]; exact in_bl, f2⟩
  have s23 : Step w2 w3 (foot p bl bm (rows.set i (r.1.flush, r.2)) evv) (foot p bl bm (rows.set i (r.1.flush, r.2)) evv') := ⟨t3.mono fun b hb _ => by
    rcases List.mem_cons.1 hb with rfl | hb
    · exact in_p
    · exact in_ev (by simpa using hb), f3⟩
  exact s12.trans s23

end

end Go.Proofs.YtlfolinjajjgjaaDoor
