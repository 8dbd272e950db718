/- Contracts of the memory's functions that write: note, rest, settle. -/
import Derived.Test.YtlfolinjajjgjaaDoorM1
namespace Go.Proofs.YtlfolinjajjgjaaDoor
open Go.E

/-! The blocks of the memory -/

theorem fm_disj {α : Type} {g : α → List Nat} : ∀ {l : List α}, (l.flatMap g).Nodup → ∀ {i j : Nat} {r s : α} {b : Nat}, l[i]? = some r → l[j]? = some s → b ∈ g r → b ∈ g s → i = j := by
  intro l
  induction l with
  | nil => intro _ i j r s b hi; simp at hi
  | cons x t ih =>
    intro h i j r s b hi hj hr hs
    rw [List.flatMap_cons, List.nodup_append] at h
    obtain ⟨_, h2, h3⟩ := h
    cases i with
    | zero =>
      cases j with
      | zero => rfl
      | succ j =>
        simp only [List.getElem?_cons_zero, Option.some.injEq, List.getElem?_cons_succ] at hi hj
        subst hi
        exact absurd rfl (h3 b hr b (List.mem_flatMap.2 ⟨s, List.mem_of_getElem? hj, hs⟩))
    | succ i =>
      cases j with
      | zero =>
        simp only [List.getElem?_cons_zero, Option.some.injEq, List.getElem?_cons_succ] at hi hj
        subst hj
        exact absurd rfl (h3 b hs b (List.mem_flatMap.2 ⟨r, List.mem_of_getElem? hi, hr⟩))
      | succ j =>
        simp only [List.getElem?_cons_succ] at hi hj
        rw [ih h2 hi hj hr hs]

theorem nodup_swap {A X B : List Nat} {o : Option Nat} {n : Nat} (h : (A ++ (X ++ B)).Nodup) (hlt : ∀ b ∈ A ++ (X ++ B), b < n) (ho : ∀ b, o = some b → b ∈ X ∨ n ≤ b) : (A ++ (o.toList ++ B)).Nodup := by
  have hAB : (A ++ B).Nodup := h.sublist (List.Sublist.append_left (List.sublist_append_right X B) A)
  cases o with
  | none => exact hAB
  | some b =>
    have hb : b ∉ A ++ B := by
      rcases ho b rfl with hX | hn
      · rw [List.nodup_append] at h
        obtain ⟨h1, h2, h3⟩ := h
        rw [List.nodup_append] at h2
        intro hm
        rcases List.mem_append.1 hm with hm | hm
        · exact absurd rfl (h3 b hm b (List.mem_append_left _ hX))
        · exact absurd rfl (h2.2.2 b hX b hm)
      · intro hm
        have := hlt b (by
          rcases List.mem_append.1 hm with hm | hm
          · exact List.mem_append_left _ hm
          · exact List.mem_append_right _ (List.mem_append_right _ hm))
        omega
    have hp : (A ++ ([b] ++ B)).Perm (b :: (A ++ B)) := by
      exact List.perm_middle (a := b) (l₁ := A) (l₂ := B)
    exact (hp.nodup_iff).2 (List.nodup_cons.2 ⟨hb, hAB⟩)

section
variable {w : World} {p bl bm : Nat} {rows : List (Ln × Value)} {evv : Value} {span nev : Nat}

def own2 (r : Ln × Value) : List Nat := r.2.ownBlock.toList

theorem foot_eq : foot p bl bm rows evv = [p, bl, bm] ++ (evv.ownBlock.toList ++ rows.flatMap own2) := rfl

theorem mem_own2 {r : Ln × Value} {b : Nat} : b ∈ own2 r ↔ r.2.ownBlock = some b := by simp [own2]

theorem foot_set {n : Nat} (hn : (foot p bl bm rows evv).Nodup) (hlt : ∀ b ∈ foot p bl bm rows evv, b < n) {i : Nat} {r r' : Ln × Value} (hr : rows[i]? = some r) (ho : ∀ b, r'.2.ownBlock = some b → r.2.ownBlock = some b ∨ n ≤ b) :
    (foot p bl bm (rows.set i r') evv).Nodup ∧ ∀ b ∈ foot p bl bm (rows.set i r') evv, b ∈ foot p bl bm rows evv ∨ n ≤ b := by
  have hi : i < rows.length := (List.getElem?_eq_some_iff.1 hr).1
  have hri : rows[i] = r := (List.getElem?_eq_some_iff.1 hr).2
  have e1 : rows.flatMap own2 = (rows.take i).flatMap own2 ++ (own2 r ++ (rows.drop (i + 1)).flatMap own2) := by
    conv => lhs; rw [← List.take_append_drop i rows, List.drop_eq_getElem_cons hi, hri]
    simp
  have e2 : (rows.set i r').flatMap own2 = (rows.take i).flatMap own2 ++ (r'.2.ownBlock.toList ++ (rows.drop (i + 1)).flatMap own2) := by
    rw [List.set_eq_take_append_cons_drop, if_pos hi]
    simp [own2]
  have f1 : foot p bl bm rows evv = ([p, bl, bm] ++ (evv.ownBlock.toList ++ (rows.take i).flatMap own2)) ++ (own2 r ++ (rows.drop (i + 1)).flatMap own2) := by rw [foot_eq, e1]; simp
  have f2 : foot p bl bm (rows.set i r') evv = ([p, bl, bm] ++ (evv.ownBlock.toList ++ (rows.take i).flatMap own2)) ++ (r'.2.ownBlock.toList ++ (rows.drop (i + 1)).flatMap own2) := by rw [foot_eq, e2]; simp
  rw [f1] at hn hlt
  rw [f1, f2]
  refine ⟨nodup_swap hn hlt fun b hb => (ho b hb).imp_left fun h => mem_own2.2 h, fun b hb => ?_⟩
  rcases List.mem_append.1 hb with hb | hb
  · exact .inl (List.mem_append_left _ hb)
  · rcases List.mem_append.1 hb with hb | hb
    · rcases ho b (by simpa using hb) with h | h
      · exact .inl (List.mem_append_right _ (List.mem_append_left _ (mem_own2.2 h)))
      · exact .inr h
    · exact .inl (List.mem_append_right _ (List.mem_append_right _ hb))

theorem foot_ev {n : Nat} (hn : (foot p bl bm rows evv).Nodup) (hlt : ∀ b ∈ foot p bl bm rows evv, b < n) {evv' : Value} (ho : ∀ b, evv'.ownBlock = some b → evv.ownBlock = some b ∨ n ≤ b) :
    (foot p bl bm rows evv').Nodup ∧ ∀ b ∈ foot p bl bm rows evv', b ∈ foot p bl bm rows evv ∨ n ≤ b := by
  rw [foot_eq] at hn hlt
  rw [foot_eq, foot_eq]
  refine ⟨nodup_swap hn hlt fun b hb => (ho b hb).imp_left fun h => by simp [h], fun b hb => ?_⟩
  rcases List.mem_append.1 hb with hb | hb
  · exact .inl (List.mem_append_left _ hb)
  · rcases List.mem_append.1 hb with hb | hb
    · rcases ho b (by simpa using hb) with h | h
      · exact .inl (List.mem_append_right _ (List.mem_append_left _ (by simp [h])))
      · exact .inr h
    · exact .inl (List.mem_append_right _ (List.mem_append_right _ hb))

theorem in_p : p ∈ foot p bl bm rows evv := by simp [foot]
theorem in_bl : bl ∈ foot p bl bm rows evv := by simp [foot]
theorem in_bm : bm ∈ foot p bl bm rows evv := by simp [foot]
theorem in_ev {b : Nat} (h : evv.ownBlock = some b) : b ∈ foot p bl bm rows evv := by simp [foot, h]
theorem in_row {i : Nat} {r : Ln × Value} (hr : rows[i]? = some r) {b : Nat} (h : r.2.ownBlock = some b) : b ∈ foot p bl bm rows evv := by
  rw [foot_eq]
  exact List.mem_append_right _ (List.mem_append_right _ (List.mem_flatMap.2 ⟨r, List.mem_of_getElem? hr, mem_own2.2 h⟩))

namespace MemX

theorem ne (h : MemX w p bl bm rows evv span nev) : p ≠ bl ∧ p ≠ bm ∧ bl ≠ bm := by
  have := h.nodup
  simp only [foot, List.nodup_cons, List.mem_cons, not_or] at this
  exact ⟨this.1.1, this.1.2.1, this.2.1.1⟩

theorem ev_ne (h : MemX w p bl bm rows evv span nev) {b : Nat} (hb : evv.ownBlock = some b) : b ≠ p ∧ b ≠ bl ∧ b ≠ bm ∧ ∀ (i : Nat) (r : Ln × Value), rows[i]? = some r → r.2.ownBlock ≠ some b := by
  have hn := h.nodup
  have hm : b ∈ evv.ownBlock.toList ++ rows.flatMap own2 := by simp [hb]
  have hn' := hn
  rw [foot_eq] at hn'
  simp only [foot, List.nodup_cons, List.mem_cons, not_or] at hn
  refine ⟨fun e => hn.1.2.2 (e ▸ hm), fun e => hn.2.1.2 (e ▸ hm), fun e => hn.2.2.1 (e ▸ hm), fun i r hr ho => ?_⟩
  rw [List.nodup_append] at hn'
  have := hn'.2.1
  rw [List.nodup_append] at this
  exact absurd rfl (this.2.2 b (by simp [hb]) b (List.mem_flatMap.2 ⟨r, List.mem_of_getElem? hr, mem_own2.2 ho⟩))

theorem row_ne (h : MemX w p bl bm rows evv span nev) {i : Nat} {r : Ln × Value} (hr : rows[i]? = some r) {b : Nat} (hb : r.2.ownBlock = some b) : b ≠ p ∧ b ≠ bl ∧ b ≠ bm ∧ evv.ownBlock ≠ some b ∧ ∀ (j : Nat) (s : Ln × Value), rows[j]? = some s → s.2.ownBlock = some b → i = j := by
  have hn := h.nodup
  have hm' : b ∈ rows.flatMap own2 := List.mem_flatMap.2 ⟨r, List.mem_of_getElem? hr, mem_own2.2 hb⟩
  have hm : b ∈ evv.ownBlock.toList ++ rows.flatMap own2 := List.mem_append_right _ hm'
  have hn' := hn
  rw [foot_eq] at hn'
  simp only [foot, List.nodup_cons, List.mem_cons, not_or] at hn
  refine ⟨fun e => hn.1.2.2 (e ▸ hm), fun e => hn.2.1.2 (e ▸ hm), fun e => hn.2.2.1 (e ▸ hm), fun ho => (h.ev_ne ho).2.2.2 i r hr hb, fun j s hs hsb => ?_⟩
  rw [List.nodup_append] at hn'
  have := hn'.2.1
  rw [List.nodup_append] at this
  exact fm_disj this.2.1 hr hs (mem_own2.2 hb) (mem_own2.2 hsb)

/-- One line is another. -/
theorem set (h : MemX w p bl bm rows evv span nev) {i : Nat} {r r' : Ln × Value} (hr : rows[i]? = some r) {w' : World} {S : List Nat} (t : Tr S w w') (hS : ∀ b ∈ S, b = bl ∨ b = bm ∨ r.2.ownBlock = some b)
    (hl : Blk w' bl ((rows.set i r').flatMap lcells) 69) (hp : Row w' 89 2 r'.2 r'.1.pend.length (pcells r'.1.pend)) (hok : r'.1.Ok) (hown : ∀ b, r'.2.ownBlock = some b → r.2.ownBlock = some b ∨ w.heap.size ≤ b) :
    MemX w' p bl bm (rows.set i r') evv span nev ∧ ∀ b ∈ foot p bl bm (rows.set i r') evv, b ∈ foot p bl bm rows evv ∨ w.heap.size ≤ b := by
  have hi : i < rows.length := (List.getElem?_eq_some_iff.1 hr).1
  obtain ⟨hf1, hf2⟩ := foot_set h.nodup h.foot_lt hr hown
  obtain ⟨n1, n2, n3⟩ := h.ne
  obtain ⟨xs, hxs⟩ := h.evs
  have hnp : p ∉ S := fun hm => by
    rcases hS p hm with e | e | e
    · exact n1 e
    · exact n2 e
    · exact (h.row_ne hr e).1 rfl
  refine ⟨⟨by rw [List.length_set]; exact h.head.tr t hnp, hl, fun s hs => ?_, ⟨xs, Row.tr hxs t fun b hb hm => ?_⟩, fun s hs => ?_, hf1, fun b hb => ?_, by rw [List.length_set]; exact h.small, Nat.lt_of_lt_of_le h.bmlt t.size⟩, hf2⟩
  · obtain ⟨j, hj⟩ := List.mem_iff_getElem?.1 hs
    rw [List.getElem?_set] at hj
    by_cases hij : i = j
    · subst hij
      rw [if_pos rfl, if_pos hi] at hj
      obtain rfl := Option.some.inj hj
      exact hp
    · rw [if_neg hij] at hj
      refine Row.tr (h.pend s (List.mem_of_getElem? hj)) t fun b hb hm => ?_
      have hsn := h.row_ne hj hb
      rcases hS b hm with e | e | e
      · exact hsn.2.1 e
      · exact hsn.2.2.1 e
      · exact hij (hsn.2.2.2.2 i r hr e).symm
  · have he := h.ev_ne hb
    rcases hS b hm with e | e | e
    · exact he.2.1 e
    · exact he.2.2.1 e
    · exact he.2.2.2 i r hr e
  · rcases List.mem_or_eq_of_mem_set hs with hs | rfl
    · exact h.ok s hs
    · exact hok
  · rcases hf2 b hb with hb | hb
    · exact h.ge b hb
    · have := h.ge p in_p
      have := h.foot_lt p in_p
      omega

/-- Other events. -/
theorem ev (h : MemX w p bl bm rows evv span nev) {w' : World} {S : List Nat} {evv' : Value} {n : Nat} {xs : List Value} (t : Tr S w w') (hS : ∀ b ∈ S, b = p ∨ evv.ownBlock = some b)
    (hh : Blk w' p [.slice (some ⟨bl, 0, none⟩) rows.length rows.length, .map (some bm), .int .i64 (span : Nat), evv'] 73) (he : Row w' 142 12 evv' n xs) (hown : ∀ b, evv'.ownBlock = some b → evv.ownBlock = some b ∨ w.heap.size ≤ b) :
    MemX w' p bl bm rows evv' span n ∧ ∀ b ∈ foot p bl bm rows evv', b ∈ foot p bl bm rows evv ∨ w.heap.size ≤ b := by
  obtain ⟨hf1, hf2⟩ := foot_ev h.nodup h.foot_lt hown
  obtain ⟨n1, n2, n3⟩ := h.ne
  refine ⟨⟨hh, h.lines.tr t fun hm => ?_, fun s hs => ?_, ⟨xs, he⟩, h.ok, hf1, fun b hb => ?_, h.small, Nat.lt_of_lt_of_le h.bmlt t.size⟩, hf2⟩
  · rcases hS bl hm with e | e
    · exact n1 e.symm
    · exact (h.ev_ne e).2.1 rfl
  · obtain ⟨j, hj⟩ := List.mem_iff_getElem?.1 hs
    refine Row.tr (h.pend s hs) t fun b hb hm => ?_
    have hsn := h.row_ne hj hb
    rcases hS b hm with e | e
    · exact hsn.1 e
    · exact hsn.2.2.2.1 e
  · rcases hf2 b hb with hb | hb
    · exact h.ge b hb
    · have := h.ge p in_p
      have := h.foot_lt p in_p
      omega

end MemX

/-! note -/

omit w p bl bm rows evv span nev in
theorem fill_one {sz : Nat} {z cs : List Value} (hz : z.length = sz) (hc : cs.length = sz) : fillL (fun i => some (i * sz, sz)) z [(0, .agg cs.toArray)] = some cs := by
  simp only [fillL, vcells, Nat.zero_mul, Nat.zero_add]
  rw [if_pos ⟨by simpa using hc, by omega⟩]
  rw [splice_all hz (by simpa using hc)]

theorem Row.one {w : World} {e size n : Nat} {v : Value} {xs : List Value} (h : Row w e size v n xs) : E.one v = true := by
  obtain ⟨a, c, rfl⟩ := Row.slice h
  rfl

theorem own_step {S : List Nat} {w0 w1 w2 : World} {v : Value} (t : Tr S w0 w1) (t' : Tr v.ownBlock.toList w1 w2) (hS : ∀ b, v.ownBlock = some b → b ∈ S ∨ w0.heap.size ≤ b) : Tr S w0 w2 :=
  t.trans t' (fun _ h => h) (fun b hb hlt => (hS b (by simpa using hb)).resolve_right (by omega))

theorem note_calls (h : MemX w p bl bm rows evv span nev) (hnev : nev < 549755813888) (cs : List Value) (hl : cs.length = 12) (h1 : cs.all E.one = true) :
    Calls cx.P 87 #[.pointer (some ⟨p, 0, none⟩), .agg cs.toArray] w (Ret fun _ w' => ∃ evv', MemX w' p bl bm rows evv' span (nev + 1) ∧ Tr (p :: evv.ownBlock.toList) w w' ∧ ∀ b ∈ foot p bl bm rows evv', b ∈ foot p bl bm rows evv ∨ w.heap.size ≤ b) := by
  obtain ⟨xs, hxs⟩ := h.evs
  refine calls_body cx_ok (args := [.pointer (some ⟨p, 0, none⟩), .agg cs.toArray]) Tryd.func87 rfl 14 rfl rfl [] rfl ?_
  intro b3 w1 n1
  have e1 := n1.num; have z1 := n1.size
  have hp := h.head.lt
  refine draw_rule cx_ok evv.ownBlock.toList (Plan.takes [0, 1, 2, 3, 4, 5] (.one true 6 (.one true 7 (.one true 8 (.one true 9 (.one false 10 .done)))))) (by kernel_rfl) ?_
  intro w2 d
  have zd := d.tr.size
  have hown : ∀ b ∈ evv.ownBlock.toList, b ≠ p ∧ b < w.heap.size := fun b hb => by
    have hb' : evv.ownBlock = some b := by simpa using hb
    exact ⟨(h.ev_ne hb').1, h.foot_lt b (in_ev hb')⟩
  have hpn : p ∉ evv.ownBlock.toList := fun hb => (hown p hb).1 rfl
  have hbn : b3 ∉ evv.ownBlock.toList := fun hb => by have := (hown b3 hb).2; omega
  refine ⟨_, fun w' t => t.cell ((h.head.ext n1.tr).cell rfl) hpn, cs, fun w' t => (show Blk w1 b3 cs _ from n1.blk).all.tr t hbn, hl, ?_⟩
  refine ⟨?_, trivial⟩
  refine ⟨cs, fill_one rfl hl, fun b6 w3 n3 => ⟨(d.tr.ext n3.tr).of_ext, ?_, trivial⟩⟩
  have e3 := n3.num; have z3 := n3.size
  have t3 : Tr [] w w3 := (n1.tr.ext d.tr).ext n3.tr
  refine append_own cx_ok (x := ⟨1, 24, false, [.slice none 0 0], .slice 142⟩) rfl rfl rfl (by decide) (Row.tr hxs t3 (by simp)) b6 0 1 1 cs hl n3.blk.all h1 (by omega) (by decide) ?_
  intro v' w4 hv' t4 hat _
  have t14 : Tr evv.ownBlock.toList w1 w4 := (d.tr.ext n3.tr).of_ext.trans t4 (fun _ h => h) (fun _ h _ => h)
  have z4 := t4.size
  have B4 := ((h.head.ext t3).tr t4 hpn)
  refine ⟨t14, ⟨t14, ⟨t14, ⟨⟨_, _, B4, by show 3 < 4; decide, Row.one hv', fun w5 u5 => ?_⟩, trivial⟩⟩, trivial⟩, trivial⟩
  have hne' : ∀ b, v'.ownBlock = some b → evv.ownBlock = some b ∨ w.heap.size ≤ b := fun b hb => by
    rcases hat with e | e
    · exact .inl (e ▸ hb)
    · rw [e] at hb
      obtain rfl := Option.some.inj hb
      exact .inr (by omega)
  have t5 : Tr (p :: evv.ownBlock.toList) w w5 := (t3.of_ext (S := p :: evv.ownBlock.toList)).trans (t4.trans u5.tr (S'' := p :: evv.ownBlock.toList) (fun b h => List.mem_cons_of_mem _ h) (fun b h _ => by simp at h; simp [h])) (fun _ h => h) (fun _ h _ => h)
  have hrow5 : Row w5 142 12 v' (nev + 1) (xs ++ cs) := Row.tr hv' u5.tr fun b hb hm => by
    have hbp : b = p := by simpa using hm
    subst hbp
    rcases hne' b hb with e | e
    · exact hpn (by simp [e])
    · omega
  obtain ⟨m1, m2⟩ := h.ev t5 (fun b hb => by simpa using hb) u5.blk hrow5 hne'
  exact ⟨v', m1, t5, m2⟩

end

end Go.Proofs.YtlfolinjajjgjaaDoor
