/- Contracts of put and Store. -/
import Derived.Test.YtlfolinjajjgjaaDoorM5
namespace Go.Proofs.YtlfolinjajjgjaaDoor
open Go.E

section
variable {w : World} {p bl bm : Nat} {rows : List (Ln × Value)} {evv : Value} {span nev : Nat}

def Ln.put (l : Ln) (j v : Nat) : Ln := { l with pend := l.pend ++ [(j, v)] }
theorem Ln.Ok.put {l : Ln} (h : l.Ok) {j v : Nat} (hj : j < 8) (hv : v < 2 ^ 40) : (l.put j v).Ok :=
  ⟨h.ws, h.code, fun p hp => by
    simp only [Ln.put, List.mem_append, List.mem_singleton] at hp
    rcases hp with hp | rfl
    · exact h.pend p hp
    · exact ⟨hj, hv⟩, by have := h.mark; simp [Ln.put]; omega⟩

theorem mapUpdate_busy {W : World} {m : Int → Option Value} (h : IM W bm m) (i : Nat) {K : World → Prop} (hK : ∀ o W', Upd W bm o W' → IM W' bm (setM m (i : Nat) (.bool true)) → K W') :
    RunU cx.P (Instr.mapUpdate 70 (.map (some bm)) (.int .i64 (i : Nat)) (.bool true)) W K :=
  map_update cx_ok (x := ⟨1, 8, false, [.map none], .map 3 4⟩) rfl rfl rfl rfl h _ _ hK

set_option maxHeartbeats 1000000 in
theorem put_calls (h : MemW w p bl bm rows evv span nev) (hg : Gl w) (hnev : nev < 549755813888) (kind : Int) (i j v : Nat) (hj : j < 8) (hv : v < 2 ^ 40) {r : Ln × Value} (hr : rows[i]? = some r) (hst : (chk r.1.ws r.1.code).state ≠ 2) (hsm : r.1.pend.length ≤ 549755813888) :
    Calls cx.P 88 #[.pointer (some ⟨p, 0, none⟩), .int .i64 kind, .int .i64 (8 * i + j : Nat), .int .i64 (v : Nat), .func (.func 87) #[.pointer (some ⟨p, 0, none⟩)] #[]] w
      (Ret fun x w' => x = .int .i64 0 ∧ ∃ v' evv', MemW w' p bl bm (rows.set i (r.1.put j v, v')) evv' span (nev + 1) ∧ Step w w' (foot p bl bm rows evv) (foot p bl bm (rows.set i (r.1.put j v, v')) evv')) := by
  have hi : i < rows.length := (List.getElem?_eq_some_iff.1 hr).1
  have hmem := List.mem_of_getElem? hr
  have hok := h.ok r hmem
  have hrow := h.pend r hmem
  have hL := h.lens
  have hsml := h.small
  obtain ⟨n1, n2, n3⟩ := h.ne
  have hpc := h.pcell hr
  have hdiv : IntKind.i64.wrap (((8 * i + j : Nat) : Int).tdiv 8) = (i : Int) := by rw [IntWalk.i64_quo _ _ (by omega)]; omega
  refine calls_body cx_ok (args := [.pointer (some ⟨p, 0, none⟩), .int .i64 kind, .int .i64 (8 * i + j : Nat), .int .i64 (v : Nat), .func (.func 87) #[.pointer (some ⟨p, 0, none⟩)] #[]]) Tryd.func88 rfl 68 rfl rfl [.tmp 10] rfl ?_
  refine ⟨_, by decide, hdiv, fun h0 => absurd h0 (by omega), fun _ => ?_⟩
  refine call (has_calls h.toMemX i) ?_
  rintro _ _ ⟨hx, rfl⟩
  rw [decide_eq_true (by omega)] at hx
  subst hx
  refine call (word_calls (v : Int) w) ?_
  rintro _ _ ⟨hx, rfl⟩
  rw [decide_eq_true (by omega)] at hx
  subst hx
  refine call (State_calls h.toMemX hg i hr) ?_
  rintro _ w1 ⟨rfl, t1⟩
  refine ⟨fun h0 => absurd h0 (by omega), fun _ => ?_⟩
  have h1 := h.ext t1
  have hrown : ∀ b ∈ r.2.ownBlock.toList, b ≠ p ∧ b ≠ bl ∧ b < w.heap.size := fun b hb => by
    have hb' : r.2.ownBlock = some b := by simpa using hb
    have := h.row_ne hr hb'
    exact ⟨this.1, this.2.1, h.foot_lt b (in_row hr hb')⟩
  have hpn : p ∉ r.2.ownBlock.toList := fun hb => (hrown p hb).1 rfl
  have hbln : bl ∉ r.2.ownBlock.toList := fun hb => (hrown bl hb).2.1 rfl
  refine draw_rule cx_ok r.2.ownBlock.toList (Plan.takes [0, 1, 2, 3, 4, 5, 6, 7, 8, 9, 10, 11, 12, 13, 14, 15, 16] (.one true 17 (.one true 18 (.one true 19 (.one true 20 (.one false 21 .done)))))) (by kernel_rfl) ?_
  intro w2 d
  have zd := d.tr.size; have z1 := t1.size
  refine ⟨_, fun w' t => t.cell (h1.head.cell rfl) hpn, _, fun w' t => t.cell (h1.head.cell rfl) hpn, i, rfl, hi, _, fun w' t => t.cell (t1.cell hpc (by simp)) hbln, ?_⟩
  refine ⟨(j : Int), by decide, by rw [IntWalk.rem_in _ _ (by omega)]; omega, _, rfl, ?_⟩
  refine ⟨⟨_, rfl, fun b6 w3 n3' => ⟨(d.tr.ext n3'.tr).of_ext, ?_⟩⟩, trivial⟩
  have e3 := n3'.num; have z3 := n3'.size
  have t3 : Tr [] w w3 := (t1.ext d.tr).ext n3'.tr
  refine ⟨?_, trivial⟩
  have hb6 : Cells w3 b6 0 (pcells [(j, v)]) := n3'.blk.all
  refine append_own cx_ok (x := ⟨1, 24, false, [.slice none 0 0], .slice 89⟩) rfl rfl rfl (by decide) (Row.tr hrow t3 (by simp)) b6 0 1 1 (pcells [(j, v)]) rfl hb6 rfl (by omega) (by decide) ?_
  intro v' w4 hv' t4 hat _
  have t14 : Tr r.2.ownBlock.toList w1 w4 := (d.tr.ext n3'.tr).of_ext.trans t4 (fun _ h => h) (fun _ h _ => h)
  have z4 := t4.size
  have B4 := (h1.lines.ext (d.tr.ext n3'.tr)).tr t4 hbln
  refine ⟨t14, ⟨⟨i, rfl, hi, t14, ?_⟩, trivial⟩⟩
  refine ⟨⟨t14, ?_⟩, trivial⟩
  refine ⟨⟨_, _, B4, by rw [fm_len hL]; show 0 + i * 11 + 9 < _; omega, Row.one hv', fun w5 u5 => ?_⟩, trivial⟩
  have B5 : Blk w5 bl ((rows.flatMap lcells).set (0 + i * 11 + 9) v') 69 := u5.blk
  rw [show 0 + i * 11 + 9 = i * 11 + 9 by omega, line_set (j := 9) (r' := (r.1.put j v, v')) hL hr (by omega) (lcells_tail (r' := (r.1.put j v, v')) (r := r) (j := 1) rfl hok.ws.len v' rfl (by omega))] at B5
  have hne' : ∀ b, v'.ownBlock = some b → r.2.ownBlock = some b ∨ w.heap.size ≤ b := fun b hb => by
    rcases hat with e | e
    · exact .inl (e ▸ hb)
    · rw [e] at hb
      obtain rfl := Option.some.inj hb
      exact .inr (by omega)
  have t5 : Tr (bl :: r.2.ownBlock.toList) w w5 := (t3.of_ext (S := bl :: r.2.ownBlock.toList)).trans (t4.trans u5.tr (S'' := bl :: r.2.ownBlock.toList) (fun b h => List.mem_cons_of_mem _ h) (fun b h _ => by simp at h; simp [h])) (fun _ h => h) (fun _ h _ => h)
  have hbmn : bm ∉ (bl :: r.2.ownBlock.toList) := by
    simp only [List.mem_cons, Option.mem_toList, not_or]
    exact ⟨fun e => n3 e.symm, fun e => (h.row_ne hr e).2.2.1 rfl⟩
  have hpn5 : p ∉ (bl :: r.2.ownBlock.toList) := by
    simp only [List.mem_cons, Option.mem_toList, not_or]
    exact ⟨n1, fun e => (h.row_ne hr e).1 rfl⟩
  have hfresh5 : ∀ b, v'.ownBlock = some b → b ≠ bl ∧ b ≠ bm := fun b hb => by
    rcases hne' b hb with e | e
    · exact ⟨(h.row_ne hr e).2.1, (h.row_ne hr e).2.2.1⟩
    · have := h.foot_lt bl in_bl
      have := h.bmlt
      exact ⟨by omega, by omega⟩
  have hrow5 : Row w5 89 2 v' (r.1.pend.length + 1) (pcells r.1.pend ++ pcells [(j, v)]) := Row.tr hv' u5.tr fun b hb hm => (hfresh5 b hb).1 (by simpa using hm)
  refine ⟨_, (h.head.tr t5 hpn5).cell rfl, ?_⟩
  refine mapUpdate_busy (h.busy.tr t5 hbmn) i fun o w6 u6 hm6 => ?_
  have t6 : Tr (bl :: bm :: r.2.ownBlock.toList) w w6 := t5.trans u6.tr (fun b h => by rcases List.mem_cons.1 h with rfl | h <;> simp_all) (fun b h _ => by simp at h; simp [h])
  have hrow6 : Row w6 89 2 v' (r.1.put j v).pend.length (pcells (r.1.put j v).pend) := by
    have e1 : (r.1.put j v).pend.length = r.1.pend.length + 1 := by simp [Ln.put]
    have e2 : pcells (r.1.put j v).pend = pcells r.1.pend ++ pcells [(j, v)] := by simp [Ln.put, pcells]
    rw [e1, e2]
    exact Row.tr hrow5 u6.tr fun b hb hm => (hfresh5 b hb).2 (by simpa using hm)
  obtain ⟨m6, f6⟩ := h.toMemX.set hr t6 (fun b hb => by simpa using hb) (B5.tr u6.tr (by simp; exact n3)) hrow6 (hok.put hj hv) hne'
  have mw6 : MemW w6 p bl bm (rows.set i (r.1.put j v, v')) evv span nev := ⟨m6, by rw [busyM_set hi, if_neg (by simp [Ln.put])]; exact hm6⟩
  refine ⟨_, m6.head.cell rfl, _, rfl, ?_⟩
  refine call (note_calls m6 hnev _ rfl rfl) ?_
  rintro _ w7 ⟨evv', m7, t7, f7⟩
  refine ⟨rfl, v', evv', mw6.note m7 t7, ?_⟩
  have s1 : Step w w6 (foot p bl bm rows evv) (foot p bl bm (rows.set i (r.1.put j v, v')) evv) := ⟨t6.mono fun b hb _ => by
    simp only [List.mem_cons, Option.mem_toList] at hb
    rcases hb with rfl | rfl | hb
    · exact in_bl
    · exact in_bm
    · exact in_row hr hb, f6⟩
  have s2 : Step w6 w7 (foot p bl bm (rows.set i (r.1.put j v, v')) evv) (foot p bl bm (rows.set i (r.1.put j v, v')) evv') := ⟨t7.mono fun b hb _ => by
    rcases List.mem_cons.1 hb with rfl | hb
    · exact in_p
    · exact in_ev (by simpa using hb), f7⟩
  exact s1.trans s2

theorem Store_calls (h : MemW w p bl bm rows evv span nev) (hg : Gl w) (hnev : nev < 549755813888) (i j v : Nat) (hj : j < 8) (hv : v < 2 ^ 40) {r : Ln × Value} (hr : rows[i]? = some r) (hst : (chk r.1.ws r.1.code).state ≠ 2) (hsm : r.1.pend.length ≤ 549755813888) :
    Calls cx.P 76 #[.pointer (some ⟨p, 0, none⟩), .int .i64 (8 * i + j : Nat), .int .i64 (v : Nat)] w
      (Ret fun x w' => x = .int .i64 0 ∧ ∃ v' evv', MemW w' p bl bm (rows.set i (r.1.put j v, v')) evv' span (nev + 1) ∧ Step w w' (foot p bl bm rows evv) (foot p bl bm (rows.set i (r.1.put j v, v')) evv')) := by
  refine calls_body cx_ok (args := [.pointer (some ⟨p, 0, none⟩), .int .i64 (8 * i + j : Nat), .int .i64 (v : Nat)]) Tryd.func76 rfl 13 rfl rfl [.tmp 6] rfl ?_
  refine call (put_calls h hg hnev 1 i j v hj hv hr hst hsm) ?_
  rintro _ w1 ⟨rfl, h1⟩
  exact ⟨rfl, h1⟩

end

end Go.Proofs.YtlfolinjajjgjaaDoor
