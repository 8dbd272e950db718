/- THE ROW AND THE CARD OF 'alumlaw11.ClassFillKeeps', PROVED: for every input, the law's function returns true and leaves its arguments as they were; without conditions. -/
import Derived.Test.YthepaakejpbppaaGreatDoorZ497b1cca
import Derived.Test.YthepaakejpbppaaGreatDoorZ15132b63
import Derived.OpenShut
import Derived.Test.YthepaakejpbppaaGreatDoorZ850f82dd

/- Data that came in: integers, arrays and structs of integers, slices of such. -/
namespace Go.Proofs.YthepaakejpbppaaGreatDoor
open Go.E Go.ChangeShapes Go.WideShapes Go.ChangeAt Go.RowKit

def I64c (cs : List Value) : Prop := ∀ v ∈ cs, ∃ z : Int, v = .int .i64 z ∧ inI64 z

theorem I64c.list : ∀ {cs : List Value}, I64c cs → ∃ xs : List Int, cs = i64s xs ∧ ∀ z ∈ xs, inI64 z
  | [], _ => ⟨[], rfl, by simp⟩
  | v :: r, h => by
    obtain ⟨z, rfl, hz⟩ := h v (by simp)
    obtain ⟨xs, rfl, hxs⟩ := I64c.list (cs := r) fun u hu => h u (by simp [hu])
    exact ⟨z :: xs, rfl, fun y hy => by
      rcases List.mem_cons.1 hy with rfl | hy
      · exact hz
      · exact hxs y hy⟩

theorem I64c.join {cs : List Value} {o m : Nat} (h1 : I64c ((cs.drop o).take m)) (h2 : I64c (cs.drop (o + m))) : I64c (cs.drop o) := fun v hv => by
  rw [← List.take_append_drop m (cs.drop o), List.drop_drop] at hv
  rcases List.mem_append.1 hv with hv | hv
  · exact h1 v hv
  · exact h2 v hv

section
variable {H : Type} {enc : TypeId × Value → H} {P : Program} {W : World} {sp : Nat → Bool} {held : Bool} {b0 : Nat}

theorem wf_i64 {z : Int} (h : (Lit.int .i64 z).wf = true) : inI64 z := by
  simp only [Lit.wf, Bool.and_eq_true, decide_eq_true_eq] at h
  have h1 : IntKind.i64.min = -9223372036854775808 := rfl
  have h2 : IntKind.i64.max = 9223372036854775807 := rfl
  rw [h1, h2] at h
  exact h

theorem trod_flat : ∀ (d t m : Nat), flatN P d t = some m → ∀ (fuel : Nat) (cs : List Value) (x : DataW H × List MemPlace), DataW.trod enc P W b0 sp held fuel t cs = some x → I64c cs ∧ cs.length = m
  | 0, _, _, h => by cases h
  | d + 1, t, m, h => by
    intro fuel cs x hx
    have ih := trod_flat d
    have hinfo := flatN_info h
    obtain ⟨i0, hi0, hs0⟩ := hinfo
    have hco : P.cellsOf t = m := by simp [Program.cellsOf, hi0, hs0]
    unfold flatN at h
    split at h
    · rename_i i hi hu
      obtain ⟨z, hcz, _, hwf⟩ := DataW.trod_int hu hx
      cases hb : Nat.beq i.size 1 with
      | false => simp [hb] at h
      | true =>
        simp [hb] at h
        subst hcz
        exact ⟨fun v hv => ⟨z, by simpa using hv, wf_i64 hwf⟩, by simp [← h]⟩
    · rename_i i n e hi hu
      obtain ⟨xs, f', _, _, hlen, hxl, hall⟩ := DataW.trod_array hu hx
      split at h
      · rename_i q hq
        cases hb : Nat.beq i.size (n * q) with
        | false => simp [hb] at h
        | true =>
          simp [hb] at h
          obtain ⟨j, hj, hjs⟩ := flatN_info hq
          have hce : P.cellsOf e = q := by simp [Program.cellsOf, hj, hjs]
          have key : ∀ (c s : Nat), s + c = n → I64c (cs.drop (s * q)) := by
            intro c
            induction c with
            | zero =>
              intro s hs v hv
              have : s = n := by omega
              rw [this, List.drop_of_length_le (by rw [hlen, hco, h]; exact Nat.le_refl _)] at hv
              cases hv
            | succ c ihc =>
              intro s hs
              have h1 := hall s (by omega)
              rw [List.getElem?_eq_getElem (by omega), hce] at h1
              refine I64c.join (m := q) (ih e q hq _ _ _ h1).1 ?_
              have := ihc (s + 1) (by omega)
              rw [Nat.add_mul, Nat.one_mul] at this
              exact this
          have := key n 0 (by omega)
          exact ⟨by simpa using this, by rw [hlen, hco]⟩
      · cases h
    · rename_i i fs hi hu
      obtain ⟨xs, f', _, _, hlen, hxl, hall⟩ := DataW.trod_struct hu hx
      split at h
      · rename_i q hq
        cases hb : (!P.stoodInHeld t && Nat.beq i.size q) with
        | false => simp [hb] at h
        | true =>
          simp [hb] at h
          have key : ∀ (gs : List Field) (o k : Nat), fs.toList.drop k = gs → flatFs (flatN P d) gs o = some q → I64c (cs.drop o) := by
            intro gs
            induction gs with
            | nil =>
              intro o k _ ho
              simp only [flatFs, Option.some.injEq] at ho
              intro v hv
              rw [List.drop_of_length_le (by omega)] at hv
              cases hv
            | cons g r ihg =>
              intro o k hk ho
              unfold flatFs at ho
              split at ho
              · rename_i m' hm
                cases hb2 : (g.name != "_" && Nat.beq g.offset o) with
                | false => simp [hb2] at ho
                | true =>
                  simp only [hb2, cond_true] at ho
                  simp only [Bool.and_eq_true] at hb2
                  have hof : g.offset = o := Nat.eq_of_beq_eq_true hb2.2
                  have hgk : fs[k]? = some g := by
                    rw [← Array.getElem?_toList]
                    have := congrArg (·[0]?) hk
                    simpa using this
                  have hkl : k < xs.length := by
                    have := (Array.getElem?_eq_some_iff.1 hgk).1
                    omega
                  have h1 := hall k g hgk
                  obtain ⟨j, hj, hjs⟩ := flatN_info hm
                  have hce : P.cellsOf g.type = m' := by simp [Program.cellsOf, hj, hjs]
                  rw [List.getElem?_eq_getElem hkl, hof, hce] at h1
                  refine I64c.join (m := m') (ih g.type m' hm _ _ _ h1).1 (ihg (o + m') (k + 1) ?_ ho)
                  rw [← List.drop_drop, hk]
                  rfl
              · cases ho
          have := key fs.toList 0 0 rfl hq
          exact ⟨by simpa using this, by rw [hlen, hco]⟩
      · cases h
    · cases h

/-- A slice of such that came in. -/
theorem open_rows {t e m d : Nat} (hu : P.underlying t = some (.slice e)) (hf : flatN P d e = some m) (hm : 0 < m) {v : Value} {dd : DataW H} {ps : List MemPlace} {r : Reach} {b1 : Nat} (hval : Value.okWide P W r b1 t v) (hd : DataW.Trod enc P W 0 sp held t v dd ps) :
    ∃ (rows : List (List Int)) (a : Option Addr) (c : Nat), v = .slice a rows.length c ∧ rows.length ≤ c ∧ c ≤ maxLen ∧ (∀ x ∈ rows, x.length = m ∧ ∀ z ∈ x, inI64 z) ∧ (rows.length = 0 ∨ ∃ g o, a = some ⟨g, o, none⟩ ∧ Cells W g o (rows.flatMap i64s)) := by
  obtain ⟨a0, l0, c0, rfl⟩ := okWide_slice hu hval
  obtain ⟨fuel, hfu⟩ := hd
  rcases DataW.trod_slice hu hfu with ⟨hcs, _⟩ | ⟨a, len, cap, elems, rest, n, _, hcs, _, _, hlc, hcm, hlen, hel, _⟩
  · refine ⟨[], a0, c0, ?_, by simp, ?_, by simp, .inl rfl⟩
    · simp [Value.cells] at hcs
      obtain ⟨rfl, rfl, rfl⟩ := hcs
      rfl
    · simp [Value.cells] at hcs
      obtain ⟨rfl, rfl, rfl⟩ := hcs
      omega
  · simp [Value.cells] at hcs
    obtain ⟨rfl, rfl, rfl⟩ := hcs
    obtain ⟨i0, hi0, hs0⟩ := flatN_info hf
    have hco : P.cellsOf e = m := by simp [Program.cellsOf, hi0, hs0]
    have key : ∀ i, i < l0 → ∃ x : List Int, (x.length = m ∧ ∀ z ∈ x, inI64 z) ∧ ∀ j v, (i64s x)[j]? = some v → W.cell? ((a.add (i * m)).add j) = some v := by
      intro i hi
      have h1 := hel i hi
      rw [hco] at h1
      rw [List.getElem?_eq_getElem (by omega)] at h1
      obtain ⟨cs, hcs, htr⟩ := Option.bind_eq_some_iff.1 h1
      obtain ⟨_, hl3, hcells⟩ := World.cells?_some hcs
      obtain ⟨hic, hil⟩ := trod_flat d e m hf _ _ _ htr
      obtain ⟨x, rfl, hx⟩ := hic.list
      refine ⟨x, ⟨by rw [← i64s_len]; exact hil, hx⟩, fun j v hj => ?_⟩
      have hjm : j < m := by have := (List.getElem?_eq_some_iff.1 hj).1; omega
      rw [hcells j hjm]
      exact hj
    by_cases h0 : l0 = 0
    · subst h0
      exact ⟨[], some a, c0, rfl, by simp, hcm, by simp, .inl rfl⟩
    · obtain ⟨x0, ⟨hx0l, _⟩, hx0⟩ := key 0 (by omega)
      have hspot : a.spot = none := by
        obtain ⟨z, hz⟩ : ∃ z, x0[0]? = some z := ⟨_, List.getElem?_eq_getElem (by omega)⟩
        have := hx0 0 (.int .i64 z) (by simp [i64s, hz])
        obtain ⟨b, o, sp⟩ := a
        simp only [Nat.zero_mul] at this
        have e : (Addr.add (Addr.add ⟨b, o, sp⟩ 0) 0) = ⟨b, o, sp⟩ := by unfold Addr.add; simp
        rw [e] at this
        exact Go.Proofs.cell_spot this
      obtain ⟨b, o, sp⟩ := a
      simp only at hspot
      subst hspot
      let rows : List (List Int) := (List.range l0).map fun i => if h : i < l0 then (key i h).choose else []
      have hol : rows.length = l0 := by simp [rows]
      have hat : ∀ i x, rows[i]? = some x → ∃ h : i < l0, x = (key i h).choose := fun i x hx => by
        have hi : i < l0 := by rw [← hol]; exact (List.getElem?_eq_some_iff.1 hx).1
        have : rows[i]? = some (key i hi).choose := by simp [rows, hi]
        rw [this] at hx
        exact ⟨hi, (Option.some.inj hx).symm⟩
      have hrows : ∀ x ∈ rows, x.length = m ∧ ∀ z ∈ x, inI64 z := fun x hx => by
        obtain ⟨i, hi⟩ := List.mem_iff_getElem?.1 hx
        obtain ⟨h, rfl⟩ := hat i x hi
        exact (key i h).choose_spec.1
      refine ⟨rows, some ⟨b, o, none⟩, c0, by rw [hol], by omega, hcm, hrows, .inr ⟨b, o, rfl, fun k v hk => ?_⟩⟩
      have hlen : (rows.flatMap i64s).length = l0 * m := by rw [fm_len (k := m) (fun x hx => by rw [i64s_len]; exact (hrows x hx).1), hol]
      have hkl : k < l0 * m := by rw [← hlen]; exact (List.getElem?_eq_some_iff.1 hk).1
      have hdiv : k / m < l0 := Nat.div_lt_of_lt_mul (by rw [Nat.mul_comm]; exact hkl)
      obtain ⟨x, hx⟩ : ∃ x, rows[k / m]? = some x := ⟨_, List.getElem?_eq_getElem (by omega)⟩
      obtain ⟨h, hxe⟩ := hat _ x hx
      have hmod : k % m < m := Nat.mod_lt _ hm
      have hkeq : k / m * m + k % m = k := by rw [Nat.mul_comm]; exact Nat.div_add_mod k m
      obtain ⟨u, hu'⟩ : ∃ u, (i64s x)[k % m]? = some u := ⟨_, List.getElem?_eq_getElem (by rw [i64s_len, (hrows x (List.mem_of_getElem? hx)).1]; exact hmod)⟩
      have h2 := fm_get (k := m) (fun x hx => by rw [i64s_len]; exact (hrows x hx).1) hx hu'
      rw [hkeq, hk] at h2
      obtain rfl := Option.some.inj h2
      have := (key (k / m) h).choose_spec.2 (k % m) v (by rw [← hxe]; exact hu')
      rw [add_none, add_none, Nat.add_assoc, hkeq] at this
      exact this

/-- A struct of such that came in. -/
theorem open_flat {t m d : Nat} {fs : Array Field} (hu : P.underlying t = some (.struct fs)) (hf : flatN P d t = some m) {v : Value} {dd : DataW H} {ps : List MemPlace} {r : Reach} {b1 : Nat} (hval : Value.okWide P W r b1 t v) (hd : DataW.Trod enc P W 0 sp held t v dd ps) :
    ∃ xs : List Int, v = .agg (i64s xs).toArray ∧ xs.length = m ∧ ∀ z ∈ xs, inI64 z := by
  obtain ⟨cs, rfl, _⟩ := okWide_struct hu hval
  obtain ⟨fuel, hfu⟩ := hd
  obtain ⟨hic, hil⟩ := trod_flat d t m hf _ _ _ hfu
  obtain ⟨xs, hx, hr⟩ := hic.list
  refine ⟨xs, ?_, ?_, hr⟩
  · have : cs.toList = i64s xs := hx
    rw [← this]
  · have : cs.toList = i64s xs := hx
    rw [← i64s_len, ← this]
    exact hil

end

end Go.Proofs.YthepaakejpbppaaGreatDoor

/- Scripts that came in. -/
namespace Go.Proofs.YthepaakejpbppaaGreatDoor
open Go.E Go.ChangeShapes Go.WideShapes Go.ChangeAt Go.RowKit

section
variable {H : Type} {enc : TypeId × Value → H} {P : Program} {W : World} {sp : Nat → Bool} {held : Bool} {b0 : Nat}

/-- A slice that came in: each of its elements has what 'trod' says. -/
theorem trod_elems {t e m : Nat} (hu : P.underlying t = some (.slice e)) (hco : P.cellsOf e = m) (hm : 0 < m) {α : Type} {cells : α → List Value} {ok : α → Prop} (hlen : ∀ x, ok x → (cells x).length = m)
    (hel0 : ∀ (fuel : Nat) (cs : List Value) (x : DataW H × List MemPlace), DataW.trod enc P W b0 sp held fuel e cs = some x → ∃ y, ok y ∧ cs = cells y)
    {fuel : Nat} {cs : List Value} {x : DataW H × List MemPlace} (hf : DataW.trod enc P W b0 sp held fuel t cs = some x) :
    ∃ (ys : List α) (v : Value), cs = [v] ∧ (∀ y ∈ ys, ok y) ∧ SliZ W v ys.length (ys.flatMap cells) := by
  rcases DataW.trod_slice hu hf with ⟨hcs, _⟩ | ⟨a, len, cap, elems, rest, n, _, hcs, _, _, hlc, hcm, hln, hel, _⟩
  · exact ⟨[], _, hcs, by simp, _, _, rfl, Nat.le_refl _, .inl rfl⟩
  · have key : ∀ i, i < len → ∃ y : α, ok y ∧ ∀ j v, (cells y)[j]? = some v → W.cell? ((a.add (i * m)).add j) = some v := by
      intro i hi
      have h1 := hel i hi
      rw [hco] at h1
      rw [List.getElem?_eq_getElem (by omega)] at h1
      obtain ⟨cs', hcs', htr⟩ := Option.bind_eq_some_iff.1 h1
      obtain ⟨_, hl3, hcells⟩ := World.cells?_some hcs'
      obtain ⟨y, hy, rfl⟩ := hel0 _ _ _ htr
      refine ⟨y, hy, fun j v hj => ?_⟩
      have hjm : j < m := by have := (List.getElem?_eq_some_iff.1 hj).1; have := hlen y hy; omega
      rw [hcells j hjm]
      exact hj
    by_cases h0 : len = 0
    · subst h0
      exact ⟨[], _, hcs, by simp, some a, cap, rfl, hlc, .inl rfl⟩
    · obtain ⟨x0, hx0k, hx0⟩ := key 0 (by omega)
      have hspot : a.spot = none := by
        obtain ⟨v, hv⟩ : ∃ v, (cells x0)[0]? = some v := ⟨_, List.getElem?_eq_getElem (by have := hlen x0 hx0k; omega)⟩
        have := hx0 0 v hv
        obtain ⟨b, o, sp⟩ := a
        simp only [Nat.zero_mul] at this
        have e : (Addr.add (Addr.add ⟨b, o, sp⟩ 0) 0) = ⟨b, o, sp⟩ := by unfold Addr.add; simp
        rw [e] at this
        exact Go.Proofs.cell_spot this
      obtain ⟨b, o, sp⟩ := a
      simp only at hspot
      subst hspot
      obtain ⟨ys, hol, hys⟩ : ∃ ys : List α, ys.length = len ∧ ∀ i y, ys[i]? = some y → ok y ∧ ∀ j v, (cells y)[j]? = some v → W.cell? ((Addr.add ⟨b, o, none⟩ (i * m)).add j) = some v := by
        have : ∀ k, k ≤ len → ∃ ys : List α, ys.length = k ∧ ∀ i y, ys[i]? = some y → ok y ∧ ∀ j v, (cells y)[j]? = some v → W.cell? ((Addr.add ⟨b, o, none⟩ (i * m)).add j) = some v := by
          intro k
          induction k with
          | zero => exact fun _ => ⟨[], rfl, by simp⟩
          | succ k ih =>
            intro hk
            obtain ⟨ys, h1, h2⟩ := ih (by omega)
            obtain ⟨y, hy1, hy2⟩ := key k (by omega)
            refine ⟨ys ++ [y], by simp [h1], fun i y' hi => ?_⟩
            by_cases hik : i < k
            · rw [List.getElem?_append_left (by omega)] at hi
              exact h2 i y' hi
            · have hik : i = k := by have := (List.getElem?_eq_some_iff.1 hi).1; simp at this; omega
              subst hik
              rw [List.getElem?_append_right (by omega), h1, Nat.sub_self] at hi
              obtain rfl := Option.some.inj hi
              exact ⟨hy1, hy2⟩
        exact this len (Nat.le_refl _)
      have hall : ∀ y ∈ ys, ok y := fun y hy => by
        obtain ⟨i, hi⟩ := List.mem_iff_getElem?.1 hy
        exact (hys i y hi).1
      refine ⟨ys, _, hcs, hall, some ⟨b, o, none⟩, cap, by rw [hol], by omega, .inr ⟨b, o, rfl, fun k v hk => ?_⟩⟩
      have hL : ∀ y ∈ ys, (cells y).length = m := fun y hy => hlen y (hall y hy)
      have hlen' : (ys.flatMap cells).length = len * m := by rw [fm_len (k := m) hL, hol]
      have hkl : k < len * m := by rw [← hlen']; exact (List.getElem?_eq_some_iff.1 hk).1
      have hdiv : k / m < len := Nat.div_lt_of_lt_mul (by rw [Nat.mul_comm]; exact hkl)
      obtain ⟨y, hy⟩ : ∃ y, ys[k / m]? = some y := ⟨_, List.getElem?_eq_getElem (by omega)⟩
      have hmod : k % m < m := Nat.mod_lt _ hm
      have hkeq : k / m * m + k % m = k := by rw [Nat.mul_comm]; exact Nat.div_add_mod k m
      obtain ⟨u, hu'⟩ : ∃ u, (cells y)[k % m]? = some u := ⟨_, List.getElem?_eq_getElem (by rw [hL y (List.mem_of_getElem? hy)]; exact hmod)⟩
      have h2 := fm_get (k := m) hL hy hu'
      rw [hkeq, hk] at h2
      obtain rfl := Option.some.inj h2
      have := (hys (k / m) y hy).2 (k % m) v hu'
      rw [add_none, add_none, Nat.add_assoc, hkeq] at this
      exact this

def fieldsB (P : Program) (t : Nat) (l : List (Nat × Nat)) : Bool := match P.underlying t with
  | some (.struct fs) => decide ((fs.toList.map fun f => (f.type, f.offset)) = l)
  | _ => false

theorem fieldsB_struct {t : Nat} {l : List (Nat × Nat)} (hB : fieldsB P t l = true) : ∃ fs, P.underlying t = some (.struct fs) := by
  unfold fieldsB at hB
  split at hB
  · rename_i fs hfs; exact ⟨fs, hfs⟩
  · cases hB

theorem trod_fields {t : Nat} {l : List (Nat × Nat)} (hB : fieldsB P t l = true) {fuel : Nat} {cs : List Value} {x : DataW H × List MemPlace} (hf : DataW.trod enc P W b0 sp held fuel t cs = some x) :
    cs.length = P.cellsOf t ∧ ∀ (k ty off : Nat), l[k]? = some (ty, off) → ∃ f' y, DataW.trod enc P W b0 sp held f' ty ((cs.drop off).take (P.cellsOf ty)) = some y := by
  unfold fieldsB at hB
  split at hB
  · rename_i fs hfs
    have hl := of_decide_eq_true hB
    obtain ⟨xs, f', _, _, hlen, hxl, hall⟩ := DataW.trod_struct hfs hf
    refine ⟨hlen, fun k ty off hk => ?_⟩
    rw [← hl, List.getElem?_map] at hk
    obtain ⟨g, hg, he⟩ := Option.map_eq_some_iff.1 hk
    have hgk : fs[k]? = some g := by rw [← Array.getElem?_toList]; exact hg
    have hkl : k < xs.length := by
      have := (Array.getElem?_eq_some_iff.1 hgk).1
      omega
    have h1 := hall k g hgk
    rw [List.getElem?_eq_getElem hkl] at h1
    have e1 : g.type = ty := (Prod.mk.inj he).1
    have e2 : g.offset = off := (Prod.mk.inj he).2
    rw [e1, e2] at h1
    exact ⟨f', _, h1⟩
  · cases hB

end

section
variable {H : Type} {enc : TypeId × Value → H} {W : World} {sp : Nat → Bool} {held : Bool} {b0 : Nat}

theorem one_int {cs : List Value} (h : I64c cs) (hl : cs.length = 1) : ∃ z : Int, cs = [.int .i64 z] ∧ inI64 z := by
  match cs, hl with
  | [v], _ =>
    obtain ⟨z, rfl, hz⟩ := h v (by simp)
    exact ⟨z, rfl, hz⟩

set_option maxRecDepth 100000 in
theorem trod_opv {fuel : Nat} {cs : List Value} {x : DataW H × List MemPlace} (hf : DataW.trod enc Tryz.prog W b0 sp held fuel 95 cs = some x) : ∃ o : OpV, o.Ok ∧ cs = o.cells := by
  obtain ⟨hlen, hall⟩ := trod_fields (l := [(3, 0), (3, 1), (3, 2), (69, 3), (93, 11)]) (by kernel_rfl) hf
  have h12 : Tryz.prog.cellsOf 95 = 12 := by kernel_rfl
  have hi : Tryz.prog.cellsOf 3 = 1 := by kernel_rfl
  have h8 : Tryz.prog.cellsOf 69 = 8 := by kernel_rfl
  have hc : Tryz.prog.cellsOf 93 = 1 := by kernel_rfl
  have fi : flatN Tryz.prog 4 3 = some 1 := by kernel_rfl
  have f8 : flatN Tryz.prog 4 69 = some 8 := by kernel_rfl
  rw [h12] at hlen
  obtain ⟨_, _, g0⟩ := hall 0 3 0 rfl
  obtain ⟨_, _, g1⟩ := hall 1 3 1 rfl
  obtain ⟨_, _, g2⟩ := hall 2 3 2 rfl
  obtain ⟨_, _, g3⟩ := hall 3 69 3 rfl
  obtain ⟨_, _, g4⟩ := hall 4 93 11 rfl
  rw [hi] at g0 g1 g2
  rw [h8] at g3
  rw [hc] at g4
  obtain ⟨i0, l0⟩ := trod_flat 4 _ 1 fi _ _ _ g0
  obtain ⟨i1, l1⟩ := trod_flat 4 _ 1 fi _ _ _ g1
  obtain ⟨i2, l2⟩ := trod_flat 4 _ 1 fi _ _ _ g2
  obtain ⟨i3, l3⟩ := trod_flat 4 _ 8 f8 _ _ _ g3
  obtain ⟨k, hk, _⟩ := one_int i0 l0
  obtain ⟨a, ha, ia⟩ := one_int i1 l1
  obtain ⟨b, hb, _⟩ := one_int i2 l2
  obtain ⟨xs, hxs, _⟩ := i3.list
  have hcut : Tryz.prog.underlying 93 = some (.slice 144) := by kernel_rfl
  obtain ⟨cv, hcv, hone⟩ : ∃ cv : Value, (cs.drop 11).take 1 = [cv] ∧ Go.E.one cv = true := by
    rcases DataW.trod_slice hcut g4 with ⟨hcs, _⟩ | ⟨_, _, _, _, _, _, _, hcs, _⟩
    · exact ⟨_, hcs, rfl⟩
    · exact ⟨_, hcs, rfl⟩
  refine ⟨⟨k, a, b, xs, cv⟩, ⟨by rw [← i64s_len, ← hxs]; exact l3, ia, hone⟩, ?_⟩
  have e : cs = (cs.drop 0).take 1 ++ ((cs.drop 1).take 1 ++ ((cs.drop 2).take 1 ++ ((cs.drop 3).take 8 ++ (cs.drop 11).take 1))) := by
    match cs, hlen with
    | [_, _, _, _, _, _, _, _, _, _, _, _], _ => rfl
  rw [e, hk, ha, hb, hxs, hcv]
  rfl

theorem wf_u8 {z : Int} (h : (Lit.int .u8 z).wf = true) : 0 ≤ z ∧ z ≤ 255 := by
  simp only [Lit.wf, Bool.and_eq_true, decide_eq_true_eq] at h
  have h1 : IntKind.u8.min = 0 := rfl
  have h2 : IntKind.u8.max = 255 := rfl
  rw [h1, h2] at h
  exact h

set_option maxRecDepth 100000 in
theorem open_script {v : Value} {d : DataW H} {ps : List MemPlace} {r : Reach} {b1 : Nat} (hval : Value.okWide Tryz.prog W r b1 25 v) (hd : DataW.Trod enc Tryz.prog W 0 sp held 25 v d ps) :
    ∃ (ln : Nat) (os : List OpV) (es : List (Int × Int)) (sO sE : Value), v = .agg #[.int .u8 (ln : Nat), sO, sE] ∧ ln < 256 ∧ (∀ o ∈ os, o.Ok) ∧ (∀ e ∈ es, inI64 e.1) ∧ SliZ W sO os.length (ocs os) ∧ SliZ W sE es.length (ecells es) := by
  obtain ⟨fs, hfs⟩ := fieldsB_struct (show fieldsB Tryz.prog 25 [(5, 0), (22, 1), (23, 2)] = true by kernel_rfl)
  obtain ⟨cs, rfl, _⟩ := okWide_struct hfs hval
  obtain ⟨fuel, hfu⟩ := hd
  have hfu : DataW.trod enc Tryz.prog W 0 sp held fuel 25 cs.toList = some (d, ps) := hfu
  obtain ⟨hlen, hall⟩ := trod_fields (l := [(5, 0), (22, 1), (23, 2)]) (by kernel_rfl) hfu
  have h3 : Tryz.prog.cellsOf 25 = 3 := by kernel_rfl
  have c0 : Tryz.prog.cellsOf 5 = 1 := by kernel_rfl
  have c1 : Tryz.prog.cellsOf 22 = 1 := by kernel_rfl
  have c2 : Tryz.prog.cellsOf 23 = 1 := by kernel_rfl
  rw [h3] at hlen
  obtain ⟨_, _, g0⟩ := hall 0 5 0 rfl
  obtain ⟨_, _, g1⟩ := hall 1 22 1 rfl
  obtain ⟨_, _, g2⟩ := hall 2 23 2 rfl
  rw [c0] at g0
  rw [c1] at g1
  rw [c2] at g2
  obtain ⟨z, hz, _, hwf⟩ := DataW.trod_int (show Tryz.prog.underlying 5 = some (.int .u8) by kernel_rfl) g0
  have hz8 := wf_u8 hwf
  obtain ⟨os, sO, e1, hos, hO⟩ := trod_elems (m := 12) (cells := OpV.cells) (ok := OpV.Ok) (show Tryz.prog.underlying 22 = some (.slice 95) by kernel_rfl) (by kernel_rfl) (by decide) (fun o ho => ocells_len ho.len _ _ _ _) (fun fuel cs x h => trod_opv h) g1
  obtain ⟨es, sE, e2, hes, hE⟩ := trod_elems (m := 2) (cells := fun e : Int × Int => [Value.int .i64 e.1, .int .i64 e.2]) (ok := fun e : Int × Int => inI64 e.1) (show Tryz.prog.underlying 23 = some (.slice 102) by kernel_rfl) (by kernel_rfl) (by decide) (fun _ _ => rfl)
    (fun fuel cs x h => by
      obtain ⟨i, l⟩ := trod_flat 4 _ 2 (show flatN Tryz.prog 4 102 = some 2 by kernel_rfl) _ _ _ h
      obtain ⟨xs, rfl, hxs⟩ := i.list
      rw [i64s_len] at l
      match xs, l, hxs with
      | [a, b], _, hxs => exact ⟨(a, b), hxs a (by simp), rfl⟩) g2
  refine ⟨z.toNat, os, es, sO, sE, ?_, by omega, hos, hes, hO, hE⟩
  have e : cs.toList = (cs.toList.drop 0).take 1 ++ ((cs.toList.drop 1).take 1 ++ (cs.toList.drop 2).take 1) := by
    match cs.toList, hlen with
    | [_, _, _], _ => rfl
  have hcs : cs = cs.toList.toArray := by simp
  rw [hcs, e, hz, e1, e2]
  rw [show ((z.toNat : Nat) : Int) = z by omega]
  rfl

end

end Go.Proofs.YthepaakejpbppaaGreatDoor

/- Slices of numbers that came in. -/
namespace Go.Proofs.YthepaakejpbppaaGreatDoor
open Go.E Go.ChangeShapes Go.WideShapes Go.ChangeAt Go.RowKit

section
variable {H : Type} {enc : TypeId × Value → H} {W : World} {sp : Nat → Bool} {held : Bool}

theorem fm_i64s (xs : List Int) : (xs.flatMap fun x => [Value.int .i64 x]) = i64s xs := by
  unfold i64s
  induction xs with
  | nil => rfl
  | cons x r ih => rw [List.flatMap_cons, ih]; rfl

set_option maxRecDepth 100000 in
theorem open_i64s {v : Value} {d : DataW H} {ps : List MemPlace} {r : Reach} {b1 : Nat} (hval : Value.okWide Tryz.prog W r b1 51 v) (hd : DataW.Trod enc Tryz.prog W 0 sp held 51 v d ps) :
    ∃ xs : List Int, (∀ x ∈ xs, inI64 x) ∧ SliZ W v xs.length (i64s xs) := by
  have hu : Tryz.prog.underlying 51 = some (.slice 3) := by kernel_rfl
  obtain ⟨a0, l0, c0, rfl⟩ := okWide_slice hu hval
  obtain ⟨fuel, hfu⟩ := hd
  obtain ⟨xs, w, hw, hok, hs⟩ := trod_elems (m := 1) (cells := fun x : Int => [Value.int .i64 x]) (ok := fun x : Int => inI64 x) hu (by kernel_rfl) (by decide) (fun _ _ => rfl)
    (fun fuel cs x h => by
      obtain ⟨i, l⟩ := trod_flat 4 _ 1 (show flatN Tryz.prog 4 3 = some 1 by kernel_rfl) _ _ _ h
      obtain ⟨z, hz, hi⟩ := one_int i l
      exact ⟨z, hi, hz⟩) hfu
  rw [fm_i64s] at hs
  have : w = .slice a0 l0 c0 := by
    have h : [Value.slice a0 l0 c0] = [w] := hw
    exact (List.cons.inj h).1.symm
  subst this
  exact ⟨xs, hok, hs⟩

end

end Go.Proofs.YthepaakejpbppaaGreatDoor
namespace Go.Proofs.YthepaakejpbppaaGreatDoor
open Go.E Go.ChangeShapes Go.WideShapes Go.ChangeAt Go.RowKit

set_option maxRecDepth 100000 in
set_option maxHeartbeats 1000000 in
theorem classFillKeeps_lifted (os : Os) (started : os.Started) (H : Type) (enc : TypeId × Value → H) :
    ReturnsInHanded {} Tryz.checked os 8 .any (fun w args => (Rows.classFillKeepsSpec.pre enc Tryz.prog Tryz.f8 [] false w args ∧ laidMetH Tryz.prog seatLaid w) ∧ sizedMet enc Tryz.prog Tryz.f8 (OpenSpec.ofChange Rows.classFillKeepsSpec) false w args)
      (Rows.classFillKeepsSpec.post enc Tryz.prog Tryz.f8 false true false false) := by
  refine returnsInHanded_of_change_and (C := Tryz.checked) (X := fun w _ => laidMetH Tryz.prog seatLaid w) (fun _ _ _ hh h => h.of_heap hh) seatOwn started (by kernel_rfl) Tryz.func8
    (ChangeSpec.witness_shaped (enc := enc) (C := Tryz.checked) (os := os) (X := fun w _ => laidMetH Tryz.prog seatLaid w) false (World.laidAll Tryz.prog os seatLaid) #[.agg #[.int .u8 0, .slice none 0 0, .slice none 0 0], .int .u8 0, .slice none 0 0] 8 (World.laidAll_os _ _ _)
      (World.shaped_of_ZipB (by kernel_rfl) (by kernel_rfl)) (by kernel_rfl) (by kernel_rfl) (by kernel_rfl)
      (by rw [MakeChecks.laidMetH_plain _ _ _ (by kernel_rfl)]; exact laidMet_laidAll _ (by kernel_rfl) (by kernel_rfl))) ?_
  intro W base args ds gs before hval0 hW _ _ hL _
  have hval : ∀ (j : Nat) t v, Tryz.f8.params[j]? = some t → args[j]? = some v → Value.okWide Tryz.prog W .any base t v := hval0
  have hW' := hW
  have hlt := hW.lt
  obtain ⟨p, q, hA0, hV, rfl, _, _⟩ := hW
  have hA : DataW.TrodAll enc Tryz.prog W 0 (fun _ => true) true Tryz.f8.params.toList args.toList ds p := hA0
  rw [show Tryz.f8.params = #[25, 5, 51] from rfl] at hA hval
  obtain ⟨v0, v1, v2, d0, d1, d2, p0, p1, p2, rfl, rfl, rfl, h0, h1, h2⟩ := trodAll_three hA
  obtain ⟨rfl, rfl⟩ := trodVars_none hV
  have hint1 : Tryz.prog.underlying 5 = some (.int .u8) := by kernel_rfl
  obtain ⟨ln, ops, es, sO, sE, rfl, hln, hos, hes, hO, hE⟩ := open_script (hval 0 25 v0 rfl rfl) h0
  obtain ⟨z1, rfl, rfl, rfl, wz1⟩ := open_int hint1 (hval 1 5 v1 rfl rfl) h1
  have hz1 := wf_u8 wz1
  obtain ⟨y1, rfl⟩ : ∃ y : Nat, z1 = (y : Int) := ⟨z1.toNat, by omega⟩
  obtain ⟨xs2, hx2, hS2⟩ := open_i64s (hval 2 51 v2 rfl rfl) h2
  have hg := gl_of_laid hL
  have hlt0 : ∀ x ∈ p0, x.block < W.heap.size := fun x hx => hlt x (by simp [hx])
  have hlt2 : ∀ x ∈ p2, x.block < W.heap.size := fun x hx => hlt x (by simp [hx])
  simp only [List.append_nil] at hW'
  refine (KeepsLaw_calls W hg ln hln ops hos es hes hO hE y1 (by omega) xs2 hx2 hS2).mono fun e W' ⟨v, he, hv, ht⟩ => ?_
  subst he; subst hv
  refine ⟨_, rfl, _, _, _, [], _, [], hW', trodAll_mk1 (shut_bool (show Tryz.prog.underlying 4 = some .bool by kernel_rfl) true),
    trodAll_mk3 (Below.trod seatLaidOut (by kernel_rfl) (of_decide_eq_true (by kernel_rfl)) h0 (below_of_tr ht) hlt0) (shut_int hint1 wz1) (Below.trod seatLaidOut (by kernel_rfl) (of_decide_eq_true (by kernel_rfl)) h2 (below_of_tr ht) hlt2), by first | rfl | simp, kept_of_tr ht _, fun h => by cases h⟩

set_option maxRecDepth 100000 in
theorem classFillKeeps_holds : Rows.ClassFillKeepsSaid :=
  OpenClaim.holds_of_wide 8 Tryz.f8 rfl rfl rfl rfl rfl rfl rfl ⟨rfl, rfl, rfl, rfl, rfl⟩ rfl rfl rfl rfl rfl (by kernel_rfl) Tryz.func8 (by kernel_rfl)
    (of_decide_eq_true (by kernel_rfl)) (by unfold Func.isWrapper; first | (rw [if_pos (by decide +kernel)]; kernel_rfl) | (rw [if_neg (by decide +kernel)]; exact ⟨rfl, rfl⟩))
    (fun os started H enc _ => classFillKeeps_lifted os started H enc)

set_option maxRecDepth 100000 in
theorem classFillKeeps_card_holds : Rows.ClassFillKeepsCardSaid :=
  Claim7.holds_tied_plain_at .later [] [.data, .data, .data, .data] true (true, "ee495869a9d923b73d57e755ab5f2ab723284ece4d27d9186336cd8d41b78de3") false classFillKeeps_holds (fun _ h => by cases h) (by kernel_rfl) (fun _ h => by cases h) classFillKeeps_row_tie rfl ⟨rfl, rfl⟩ (by kernel_rfl) rfl
    (fun f fn hf hfn => by
      obtain rfl : f = 8 := Option.some.inj ((show Tryz.prog.funcNamed "alum/alumlaw11.ClassFillKeeps" = some 8 by kernel_rfl).symm.trans hf) |>.symm
      obtain rfl : fn = Tryz.f8 := (Option.some.inj (Tryz.func8.symm.trans hfn)).symm
      exact ⟨by kernel_rfl, fun j t ht => by
        rw [show Tryz.f8.params = #[25, 5, 51] from rfl] at ht
        have hm : t ∈ [25, 5, 51] := by simpa using Array.mem_of_getElem? ht
        have hall : ([25, 5, 51].all fun u => !Tryz.prog.wantsStandIn u) = true := by kernel_rfl
        exact (show Tryz.prog.wantsStandIn t = false by simpa using List.all_eq_true.1 hall t hm)⟩)
    (by kernel_rfl)

end Go.Proofs.YthepaakejpbppaaGreatDoor
