/- The calculus E, part J: maps with integer keys; append. -/
import Derived.Test.YtlfolinjajjgjaaDoorEF
import Derived.Maps.RangeRun
import Derived.Maps.AppendAt
namespace Go.E

theorem nodup_at {α : Type} {l : List α} (h : l.Nodup) {i j : Nat} {a : α} (hi : l[i]? = some a) (hj : l[j]? = some a) : i = j :=
  (List.getElem?_inj (List.getElem?_eq_some_iff.1 hi).1 h).1 (hi.trans hj.symm)

/-- The entries are the map m. -/
structure Ents (es : Array MapEntry) (clock : Nat) (m : Int → Option Value) : Prop where
  key : ∀ e ∈ es.toList, ∃ k, e.key = .int .i64 k ∧ m k = some e.val ∧ e.born < clock
  has : ∀ k v, m k = some v → ∃ e ∈ es.toList, e.key = .int .i64 k
  once : (es.toList.map (·.key)).Nodup
  born : (es.toList.map (·.born)).Nodup

/-- Block b is the map m. -/
def IM (w : World) (b : Nat) (m : Int → Option Value) : Prop := ∃ es clock, w.heap[b]? = some (.map es clock) ∧ Ents es clock m

theorem Ents.nil : Ents #[] 0 (fun _ => none) := ⟨by simp, by simp, by simp, by simp⟩

theorem IM.new {w w' : World} {b : Nat} (h : New w b (.map #[] 0) w') : IM w' b (fun _ => none) := ⟨_, _, h.get, Ents.nil⟩
theorem IM.lt {w : World} {b : Nat} {m : Int → Option Value} (h : IM w b m) : b < w.heap.size := let ⟨_, _, hb, _⟩ := h; lt_of_get hb
theorem IM.tr {S : List Nat} {w w' : World} {b : Nat} {m : Int → Option Value} (h : IM w b m) (t : Tr S w w') (hn : b ∉ S) : IM w' b m :=
  let ⟨es, clock, hb, he⟩ := h; ⟨es, clock, t.get hb hn, he⟩
theorem IM.congr {w : World} {b : Nat} {m m' : Int → Option Value} (h : IM w b m) (he : ∀ k, m k = m' k) : IM w b m' := by
  have : m = m' := funext he
  exact this ▸ h

theorem find_int (q : IntKind) (k : Int) : ∀ (l : List MapEntry) (i : Nat), (∀ e ∈ l, ∃ k, e.key = .int .i64 k) →
    (Instr.findNow (.int q) (.int .i64 k) l i = some none ∧ ∀ e ∈ l, e.key ≠ .int .i64 k) ∨
    ∃ j e, l[j]? = some e ∧ e.key = .int .i64 k ∧ Instr.findNow (.int q) (.int .i64 k) l i = some (some (i + j, e.val)) := by
  intro l
  induction l with
  | nil => intro i _; exact .inl ⟨rfl, by simp⟩
  | cons e r ih =>
    intro i h
    obtain ⟨k', hk'⟩ := h e (by simp)
    by_cases hk : k = k'
    · subst hk
      refine .inr ⟨0, e, by simp, hk', ?_⟩
      simp [Instr.findNow, Instr.sameNow, hk']
    · have hne : (k == k') = false := by simpa using hk
      have hf : Instr.findNow (.int q) (.int .i64 k) (e :: r) i = Instr.findNow (.int q) (.int .i64 k) r (i + 1) := by
        simp [Instr.findNow, Instr.sameNow, hk', hne]
      rw [hf]
      rcases ih (i + 1) (fun x hx => h x (by simp [hx])) with ⟨h1, h2⟩ | ⟨j, x, h1, h2, h3⟩
      · refine .inl ⟨h1, fun x hx => ?_⟩
        rcases List.mem_cons.1 hx with rfl | hx
        · rw [hk']; simp; exact fun h => hk h.symm
        · exact h2 x hx
      · exact .inr ⟨j + 1, x, by simpa using h1, h2, by rw [h3]; congr 3; omega⟩

theorem Ents.find {es : Array MapEntry} {clock : Nat} {m : Int → Option Value} (h : Ents es clock m) (q : IntKind) (k : Int) :
    (Instr.findNow (.int q) (.int .i64 k) es.toList 0 = some none ∧ m k = none ∧ ∀ e ∈ es.toList, e.key ≠ .int .i64 k) ∨
    ∃ j e, es.toList[j]? = some e ∧ e.key = .int .i64 k ∧ m k = some e.val ∧ Instr.findNow (.int q) (.int .i64 k) es.toList 0 = some (some (j, e.val)) := by
  rcases find_int q k es.toList 0 (fun e he => let ⟨k, hk, _⟩ := h.key e he; ⟨k, hk⟩) with ⟨h1, h2⟩ | ⟨j, e, h1, h2, h3⟩
  · refine .inl ⟨h1, ?_, h2⟩
    cases hm : m k with
    | none => rfl
    | some v =>
      obtain ⟨e, he, hk⟩ := h.has k v hm
      exact absurd hk (h2 e he)
  · refine .inr ⟨j, e, h1, h2, ?_, by simpa using h3⟩
    obtain ⟨k', hk', hm, _⟩ := h.key e (List.mem_of_getElem? h1)
    rw [h2] at hk'
    cases hk'
    exact hm

section
variable {c : Cx} (hc : c.Ok)
include hc

theorem under_map {t k e : Nat} {x : TI} (h : tget c.tb t = some x) (hk : x.kd = .map k e) : c.P.underlying t = some (.map k e) := by
  obtain ⟨i, d, _, hu, _, _, _, hkd, _⟩ := hc.info h
  rw [hu, kdOf_map (hk.symm.trans hkd)]

theorem under_int {t : Nat} {q : IntKind} {x : TI} (h : tget c.tb t = some x) (hk : x.kd = .int q) : c.P.underlying t = some (.int q) := by
  obtain ⟨i, d, _, hu, _, _, _, hkd, _⟩ := hc.info h
  rw [hu, kdOf_int (hk.symm.trans hkd)]

/-- 'm[k]'. -/
theorem map_lookup {t kt et : Nat} {x y : TI} {zv : Value} (ht : tget c.tb t = some x) (hx : x.kd = .map kt et) (hkt : tget c.tb kt = some y) (hy : y.kd = .int .i64) (hz : ((c.P.info? et).bind fun i => i.zero) = some zv)
    {w : World} {b : Nat} {m : Int → Option Value} (h : IM w b m) (k : Int) (ok : Bool) {K : Value → World → Prop}
    (hs : ∀ v, m k = some v → K (if ok then .tuple #[v, .bool true] else v) w)
    (hn : m k = none → K (if ok then .tuple #[zv, .bool false] else zv) w) : RunV c.P (Instr.lookup t (.map (some b)) (.int .i64 k) ok) w K := by
  obtain ⟨es, clock, hb, he⟩ := h
  have hm := under_map hc ht hx
  have hq := under_int hc hkt hy
  have hzr : (zeroValue et).run c.P w = .ok zv w := by
    obtain ⟨i, hi, hz⟩ := Option.bind_eq_some_iff.1 hz
    simp [zeroValue, typeInfo, hi, hz]
  have hck := MapKept.run_checkKey (P := c.P) (w := w) (k := .int .i64 k) hq (by simp [MapKept.IsKey]) es.isEmpty 9999
  rcases he.find .i64 k with ⟨h1, h2, _⟩ | ⟨j, e, h1, h2, h3, h4⟩
  · refine ⟨_, w, ?_, hn h2⟩
    have hf := MapKept.run_findKey (w := w) hq h1
    simp [Instr.lookup, run_underlying hm, MapKept.run_getObj_map hb, hck, hf, hzr, Result.andThen]
  · refine ⟨_, w, ?_, hs _ h3⟩
    have hf := MapKept.run_findKey (w := w) hq h4
    simp [Instr.lookup, run_underlying hm, MapKept.run_getObj_map hb, hck, hf, Result.andThen]

def setM (m : Int → Option Value) (k : Int) (v : Value) : Int → Option Value := fun j => if j = k then some v else m j
def delM (m : Int → Option Value) (k : Int) : Int → Option Value := fun j => if j = k then none else m j

omit hc in
theorem Ents.set_new {es : Array MapEntry} {clock : Nat} {m : Int → Option Value} (h : Ents es clock m) {k : Int} (hk : ∀ e ∈ es.toList, e.key ≠ .int .i64 k) (v : Value) :
    Ents (es.push { key := .int .i64 k, val := v, born := clock }) (clock + 1) (setM m k v) := by
  refine ⟨fun e he => ?_, fun j u hj => ?_, ?_, ?_⟩
  · simp only [Array.toList_push, List.mem_append, List.mem_singleton] at he
    rcases he with he | rfl
    · obtain ⟨k', h1, h2, h3⟩ := h.key e he
      refine ⟨k', h1, ?_, by omega⟩
      have : k' ≠ k := fun e' => hk e he (by rw [h1, e'])
      simp [setM, this, h2]
    · exact ⟨k, rfl, by simp [setM], by simp⟩
  · simp only [Array.toList_push, List.mem_append, List.mem_singleton]
    by_cases hjk : j = k
    · subst hjk; exact ⟨_, .inr rfl, rfl⟩
    · simp only [setM, hjk, if_false] at hj
      obtain ⟨e, he, hke⟩ := h.has j u hj
      exact ⟨e, .inl he, hke⟩
  · simp only [Array.toList_push, List.map_append, List.map_cons, List.map_nil]
    rw [List.nodup_append]
    refine ⟨h.once, by simp, fun a ha b hb => ?_⟩
    simp only [List.mem_singleton] at hb
    obtain ⟨e, he, rfl⟩ := List.mem_map.1 ha
    rw [hb]; exact hk e he
  · simp only [Array.toList_push, List.map_append, List.map_cons, List.map_nil]
    rw [List.nodup_append]
    refine ⟨h.born, by simp, fun a ha b hb => ?_⟩
    simp only [List.mem_singleton] at hb
    obtain ⟨e, he, rfl⟩ := List.mem_map.1 ha
    obtain ⟨_, _, _, h3⟩ := h.key e he
    rw [hb]; omega

omit hc in
theorem map_modify_eq {α β : Type} (f : α → β) (g : α → α) : ∀ (l : List α) (j : Nat) (e : α), l[j]? = some e → f (g e) = f e → (l.modify j g).map f = l.map f := by
  intro l j e he hg
  apply List.ext_getElem?
  intro i
  simp only [List.getElem?_map, List.getElem?_modify]
  by_cases hi : j = i
  · subst hi; simp [he, hg]
  · simp [hi]

omit hc in
theorem Ents.set_old {es : Array MapEntry} {clock : Nat} {m : Int → Option Value} (h : Ents es clock m) {k : Int} {j : Nat} {e : MapEntry} (he : es.toList[j]? = some e) (hk : e.key = .int .i64 k) (v : Value) :
    Ents (es.modify j fun e => { e with key := .int .i64 k, val := v }) clock (setM m k v) := by
  have hl : (es.modify j fun e => { e with key := .int .i64 k, val := v }).toList = es.toList.modify j (fun e => { e with key := .int .i64 k, val := v }) := by simp
  have hkeys : (es.toList.modify j (fun e => { e with key := .int .i64 k, val := v })).map (·.key) = es.toList.map (·.key) := map_modify_eq _ _ _ _ e he (by simp [hk])
  have hborn : (es.toList.modify j (fun e => { e with key := .int .i64 k, val := v })).map (·.born) = es.toList.map (·.born) := map_modify_eq _ _ _ _ e he rfl
  refine ⟨fun x hx => ?_, fun i u hi => ?_, ?_, ?_⟩
  · rw [hl] at hx
    obtain ⟨i, hi⟩ := List.mem_iff_getElem?.1 hx
    rw [List.getElem?_modify] at hi
    by_cases hij : j = i
    · subst hij
      simp only [he, Option.map_some, if_true, Option.some.injEq, Option.map_eq_map] at hi
      subst hi
      obtain ⟨k', h1, h2, h3⟩ := h.key e (List.mem_of_getElem? he)
      exact ⟨k, rfl, by simp [setM], h3⟩
    · simp only [hij, if_false] at hi
      have hi' : es.toList[i]? = some x := by simpa using hi
      obtain ⟨k', h1, h2, h3⟩ := h.key x (List.mem_of_getElem? hi')
      refine ⟨k', h1, ?_, h3⟩
      have : k' ≠ k := fun ek => by
        subst ek
        have e1 : (es.toList.map (·.key))[i]? = some (.int .i64 k') := by rw [List.getElem?_map, hi']; simp [h1]
        have e2 : (es.toList.map (·.key))[j]? = some (.int .i64 k') := by rw [List.getElem?_map, he]; simp [hk]
        exact hij (nodup_at h.once e2 e1)
      simp [setM, this, h2]
  · have hmem : Value.int .i64 i ∈ (es.modify j fun e => { e with key := .int .i64 k, val := v }).toList.map (·.key) := by
      rw [hl, hkeys]
      by_cases hik : i = k
      · subst hik; exact List.mem_map.2 ⟨e, List.mem_of_getElem? he, hk⟩
      · simp only [setM, hik, if_false] at hi
        obtain ⟨x, hx, hkx⟩ := h.has i u hi
        exact List.mem_map.2 ⟨x, hx, hkx⟩
    obtain ⟨x, hx, hkx⟩ := List.mem_map.1 hmem
    exact ⟨x, hx, hkx⟩
  · rw [hl, hkeys]; exact h.once
  · rw [hl, hborn]; exact h.born

omit hc in
theorem Ents.del {es : Array MapEntry} {clock : Nat} {m : Int → Option Value} (h : Ents es clock m) {k : Int} {j : Nat} {e : MapEntry} (he : es.toList[j]? = some e) (hk : e.key = .int .i64 k) :
    Ents (es.eraseIdxIfInBounds j) clock (delM m k) ∧ ∀ x ∈ (es.eraseIdxIfInBounds j).toList, x ∈ es.toList := by
  have hlt : j < es.size := by have := (List.getElem?_eq_some_iff.1 he).1; simpa using this
  have hl : (es.eraseIdxIfInBounds j).toList = es.toList.eraseIdx j := by
    rw [Array.eraseIdxIfInBounds, dif_pos hlt]; simp
  have hmem : ∀ x ∈ (es.eraseIdxIfInBounds j).toList, x ∈ es.toList := fun x hx => by rw [hl] at hx; exact List.mem_of_mem_eraseIdx hx
  have hnk : ∀ x ∈ (es.eraseIdxIfInBounds j).toList, x.key ≠ .int .i64 k := by
    intro x hx hkx
    rw [hl] at hx
    obtain ⟨i, hi, hxi⟩ := List.mem_eraseIdx_iff_getElem?.1 hx
    have e1 : (es.toList.map (·.key))[i]? = some (.int .i64 k) := by rw [List.getElem?_map, hxi]; simp [hkx]
    have e2 : (es.toList.map (·.key))[j]? = some (.int .i64 k) := by rw [List.getElem?_map, he]; simp [hk]
    exact hi (nodup_at h.once e1 e2)
  refine ⟨⟨fun x hx => ?_, fun i u hi => ?_, ?_, ?_⟩, hmem⟩
  · obtain ⟨k', h1, h2, h3⟩ := h.key x (hmem x hx)
    refine ⟨k', h1, ?_, h3⟩
    have : k' ≠ k := fun ek => hnk x hx (by rw [h1, ek])
    simp [delM, this, h2]
  · have hik : i ≠ k := fun ek => by simp [delM, ek] at hi
    simp only [delM, hik, if_false] at hi
    obtain ⟨x, hx, hkx⟩ := h.has i u hi
    refine ⟨x, ?_, hkx⟩
    rw [hl, List.mem_eraseIdx_iff_getElem?]
    obtain ⟨p, hp⟩ := List.mem_iff_getElem?.1 hx
    refine ⟨p, fun e' => ?_, hp⟩
    subst e'
    rw [he] at hp
    cases hp
    rw [hk] at hkx
    cases hkx
    exact hik rfl
  · rw [hl]; exact h.once.sublist ((List.eraseIdx_sublist _ _).map _)
  · rw [hl]; exact h.born.sublist ((List.eraseIdx_sublist _ _).map _)

/-- 'm[k] = v'. -/
theorem map_update {t kt et : Nat} {x y : TI} (ht : tget c.tb t = some x) (hx : x.kd = .map kt et) (hkt : tget c.tb kt = some y) (hy : y.kd = .int .i64)
    {w : World} {b : Nat} {m : Int → Option Value} (h : IM w b m) (k : Int) (v : Value) {K : World → Prop}
    (hK : ∀ o w', Upd w b o w' → IM w' b (setM m k v) → K w') : RunU c.P (Instr.mapUpdate t (.map (some b)) (.int .i64 k) v) w K := by
  obtain ⟨es, clock, hb, he⟩ := h
  have hm := under_map hc ht hx
  have hq := under_int hc hkt hy
  have hck := MapKept.run_checkKey (P := c.P) (w := w) (k := .int .i64 k) hq (by simp [MapKept.IsKey]) false 9999
  rcases he.find .i64 k with ⟨h1, _, h2⟩ | ⟨j, e, h1, h2, h3, h4⟩
  · have hf := MapKept.run_findKey (w := w) hq h1
    refine ⟨_, ?_, hK (.map (es.push { key := .int .i64 k, val := v, born := clock }) (clock + 1)) _ ⟨lt_of_get hb, rfl⟩ ⟨_, _, by simp [lt_of_get hb], he.set_new h2 v⟩⟩
    simp [Instr.mapUpdate, run_underlying hm, MapKept.run_getObj_map hb, hck, hf, MapKept.run_setObj_map _ hb, Result.andThen]
  · have hf := MapKept.run_findKey (w := w) hq h4
    have hks := MapKept.run_keyThatStays (P := c.P) (w := w) (d := .int .i64) (k := .int .i64 k) (by simp [MapKept.IsKey])
    have hej : ((es[j]?).map (·.key)).getD (.int .i64 k) = .int .i64 k := by
      rw [← Array.getElem?_toList, h1]; simp [h2]
    refine ⟨_, ?_, hK (.map (es.modify j fun e => { e with key := .int .i64 k, val := v }) clock) _ ⟨lt_of_get hb, rfl⟩ ⟨_, _, by simp [lt_of_get hb], he.set_old h1 h2 v⟩⟩
    simp only [Instr.mapUpdate, Sem.run_bind, run_underlying hm, MapKept.run_getObj_map hb, hck, hf, Result.andThen, hej, hks, MapKept.run_setObj_map _ hb]

/-- 'delete(m, k)'. -/
theorem map_delete {t kt et ty : Nat} {ats : Array TypeId} {x y : TI} (hats : ats[0]? = some t) (ht : tget c.tb t = some x) (hx : x.kd = .map kt et) (hkt : tget c.tb kt = some y) (hy : y.kd = .int .i64)
    {w : World} {b : Nat} {m : Int → Option Value} (h : IM w b m) (k : Int) {K : Value → World → Prop}
    (hK : ∀ o w', Upd w b o w' → IM w' b (delM m k) → K (.tuple #[]) w') : RunV c.P (Builtin.delete_ ats ty #[.map (some b), .int .i64 k]) w K := by
  obtain ⟨es, clock, hb, he⟩ := h
  have hm := under_map hc ht hx
  have hq := under_int hc hkt hy
  have hck := MapKept.run_checkKey (P := c.P) (w := w) (k := .int .i64 k) hq (by simp [MapKept.IsKey]) es.isEmpty 9999
  rcases he.find .i64 k with ⟨h1, h0, h2⟩ | ⟨j, e, h1, h2, h3, h4⟩
  · have hf := MapKept.run_findKey (w := w) hq h1
    have hdel : delM m k = m := by
      funext j
      unfold delM
      split
      · rename_i hj; rw [hj, h0]
      · rfl
    refine ⟨_, _, ?_, hK (.map es clock) _ ⟨lt_of_get hb, rfl⟩ ⟨es, clock, by simp [lt_of_get hb], hdel.symm ▸ he⟩⟩
    simp [Builtin.delete_, hats, run_underlying hm, MapKept.run_getObj_map hb, hck, hf, MapKept.run_setObj_map _ hb, Result.andThen]
  · have hf := MapKept.run_findKey (w := w) hq h4
    refine ⟨_, _, ?_, hK (.map (es.eraseIdxIfInBounds j) clock) _ ⟨lt_of_get hb, rfl⟩ ⟨es.eraseIdxIfInBounds j, clock, by simp [lt_of_get hb], (he.del h1 h2).1⟩⟩
    simp [Builtin.delete_, hats, run_underlying hm, MapKept.run_getObj_map hb, hck, hf, MapKept.run_setObj_map _ hb, Result.andThen]

/-- 'clear(m)'. -/
theorem map_clear {t kt et ty : Nat} {ats : Array TypeId} {x : TI} (hats : ats[0]? = some t) (ht : tget c.tb t = some x) (hx : x.kd = .map kt et)
    {w : World} {b : Nat} {m : Int → Option Value} (h : IM w b m) {K : Value → World → Prop}
    (hK : ∀ o w', Upd w b o w' → IM w' b (fun _ => none) → K (.tuple #[]) w') : RunV c.P (Builtin.clear_ ats ty #[.map (some b)]) w K := by
  obtain ⟨es, clock, hb, he⟩ := h
  have hm := under_map hc ht hx
  refine ⟨_, _, ?_, hK (.map #[] clock) _ ⟨lt_of_get hb, rfl⟩ ⟨#[], clock, by simp [lt_of_get hb], ⟨by simp, by simp, by simp, by simp⟩⟩⟩
  simp [Builtin.clear_, hats, run_underlying hm, MapKept.run_getObj_map hb, MapKept.run_setObj_map _ hb, Result.andThen]

/-! range -/

/-- A loop over the map in block b, its iterator in block r: 'left' are the keys still to come, at most cnt. -/
def IR (w : World) (b r : Nat) (m : Int → Option Value) (left : Int → Prop) (cnt : Nat) : Prop :=
  ∃ es clock since seen c0, w.heap[b]? = some (.map es clock) ∧ Ents es clock m ∧ w.heap[r]? = some (.mapIter (some b) since seen c0) ∧ (∀ x ∈ es.toList, x.born < since) ∧ since ≤ c0 ∧ since ≤ clock ∧
    (∀ k, left k ↔ ∃ e ∈ es.toList, e.key = .int .i64 k ∧ seen.contains e.born = false) ∧ (leftOf es seen).size = cnt

omit hc in
theorem IR.im {w : World} {b r : Nat} {m : Int → Option Value} {left : Int → Prop} {cnt : Nat} (h : IR w b r m left cnt) : IM w b m := by
  obtain ⟨es, clock, _, _, _, hb, he, _⟩ := h
  exact ⟨es, clock, hb, he⟩
omit hc in
theorem IR.tr {S : List Nat} {w w' : World} {b r : Nat} {m : Int → Option Value} {left : Int → Prop} {cnt : Nat} (h : IR w b r m left cnt) (t : Tr S w w') (hb : b ∉ S) (hr : r ∉ S) : IR w' b r m left cnt := by
  obtain ⟨es, clock, since, seen, c0, h1, h2, h3, rest⟩ := h
  exact ⟨es, clock, since, seen, c0, t.get h1 hb, h2, t.get h3 hr, rest⟩
omit hc in
theorem IR.ne {w : World} {b r : Nat} {m : Int → Option Value} {left : Int → Prop} {cnt : Nat} (h : IR w b r m left cnt) : r ≠ b := by
  obtain ⟨es, clock, since, seen, c0, h1, h2, h3, rest⟩ := h
  intro e
  rw [e, h1] at h3
  cases h3

theorem map_range {t kt et : Nat} {x : TI} (ht : tget c.tb t = some x) (hx : x.kd = .map kt et)
    {w : World} {b : Nat} {m : Int → Option Value} (h : IM w b m) {K : Value → World → Prop}
    (hK : ∀ r o w' cnt, New w r o w' → IR w' b r m (fun k => m k ≠ none) cnt → K (.pointer (some ⟨r, 0, none⟩)) w') : RunV c.P (Instr.range t (.map (some b))) w K := by
  obtain ⟨es, clock, hb, he⟩ := h
  have hm := under_map hc ht hx
  refine ⟨_, { w with heap := w.heap.push (.mapIter (some b) clock #[] clock) }, ?_, hK w.heap.size _ _ _ ⟨rfl, rfl⟩ ⟨es, clock, clock, #[], clock, ?_, he, by simp, fun x hx => ?_, Nat.le_refl _, Nat.le_refl _, fun k => ?_, rfl⟩⟩
  · simp [Instr.range, run_underlying hm, getObj, Sem.run, hb, newObj, Result.andThen]
  · have := lt_of_get hb
    simp only [Array.getElem?_push]
    rw [if_neg (by omega)]; exact hb
  · obtain ⟨_, _, _, h3⟩ := he.key x hx
    exact h3
  · constructor
    · intro hk
      cases hmk : m k with
      | none => exact absurd hmk hk
      | some v =>
        obtain ⟨e, he', hke⟩ := he.has k v hmk
        exact ⟨e, he', hke, by simp⟩
    · rintro ⟨e, he', hke, _⟩
      obtain ⟨k', h1, h2, _⟩ := he.key e he'
      rw [hke] at h1
      cases h1
      rw [h2]; simp

omit hc in
theorem Ents.born_inj {es : Array MapEntry} {clock : Nat} {m : Int → Option Value} (h : Ents es clock m) {x y : MapEntry} (hx : x ∈ es.toList) (hy : y ∈ es.toList) (hb : x.born = y.born) : x = y := by
  obtain ⟨i, hi⟩ := List.mem_iff_getElem?.1 hx
  obtain ⟨j, hj⟩ := List.mem_iff_getElem?.1 hy
  have e1 : (es.toList.map (·.born))[i]? = some x.born := by rw [List.getElem?_map, hi]; rfl
  have e2 : (es.toList.map (·.born))[j]? = some x.born := by rw [List.getElem?_map, hj, hb]; rfl
  obtain rfl := nodup_at h.born e1 e2
  rw [hi] at hj
  exact Option.some.inj hj

omit hc in
/-- The step of the loop. -/
theorem map_next {P : Program} {ty : Nat} {w : World} {b r : Nat} {m : Int → Option Value} {left : Int → Prop} {cnt : Nat} (h : IR w b r m left cnt) {K : Value → World → Prop}
    (hdone : (∀ k, ¬ left k) → K (.tuple #[.bool false]) w)
    (hstep : ∀ k v w' cnt', left k → m k = some v → cnt' < cnt → Tr [r] w w' → IR w' b r m (fun j => left j ∧ j ≠ k) cnt' →
      (Instr.entry (.pointer (some ⟨r, 0, none⟩))).run P w' = .ok (.tuple #[.int .i64 k, v]) w' → K (.tuple #[.bool true, .int .i64 k, v]) w') :
    RunV P (Instr.next (.pointer (some ⟨r, 0, none⟩)) false ty) w K := by
  have hne := h.ne
  obtain ⟨es, clock, since, seen, c0, hb, he, hr, hold, hsc, hsk, hl, rfl⟩ := h
  rcases run_next_at (P := P) w ty r b since c0 seen es clock hr hb hold hsc with ⟨h0, hrun⟩ | ⟨e, hel, w1, hal, hrun⟩
  · refine ⟨_, w, hrun, hdone fun k hk => ?_⟩
    obtain ⟨x, hx, _, hs⟩ := (hl k).1 hk
    have : x ∈ (leftOf es seen).toList := by simp [leftOf]; exact ⟨by simpa using hx, by simpa using hs⟩
    have hsz : (leftOf es seen).toList.length = 0 := by simpa using h0
    rw [List.length_eq_zero_iff.1 hsz] at this
    cases this
  · obtain ⟨hem, hes⟩ := mem_left hel
    obtain ⟨k, hk, hmk, _⟩ := he.key e hem
    have hr1 : w1.heap[r]? = some (.mapIter (some b) since seen c0) := by rcases hal with rfl | rfl <;> exact hr
    have hb1 : w1.heap[b]? = some (.map es clock) := by rcases hal with rfl | rfl <;> exact hb
    have hset := MapKept.heap_set (w := w1) (o' := .mapIter (some b) since (seen.push e.born) clock) hr1
    have hb' : (ChangeMaps.setBlock w1 r (.mapIter (some b) since (seen.push e.born) clock)).heap[b]? = some (.map es clock) := (hset.2 b (fun e1 => hne e1.symm)).trans hb1
    rw [hk] at hrun
    refine ⟨_, _, hrun, hstep k e.val _ _ ((hl k).2 ⟨e, hem, hk, hes⟩) hmk (left_shrinks es seen e hel) ?_ ⟨es, clock, since, seen.push e.born, clock, hb', he, hset.1, hold, hsk, hsk, fun j => ?_, rfl⟩ ?_⟩
    · refine ⟨?_, fun d hd hn => ?_, ?_, ?_, ?_⟩
      · rcases hal with rfl | rfl <;> simp [ChangeMaps.setBlock]
      · have hdr : d ≠ r := fun e' => hn (by simp [e'])
        have := hset.2 d hdr
        rcases hal with rfl | rfl <;> exact this
      · rcases hal with rfl | rfl <;> rfl
      · rcases hal with rfl | rfl <;> rfl
      · rcases hal with rfl | rfl <;> rfl
    · show (left j ∧ j ≠ k) ↔ _
      rw [hl j]
      constructor
      · rintro ⟨⟨x, hx, hxk, hxs⟩, hjk⟩
        refine ⟨x, hx, hxk, ?_⟩
        rw [contains_push, hxs, Bool.false_or]
        simp only [beq_eq_false_iff_ne]
        intro hbe
        have := he.born_inj hx hem hbe
        subst this
        rw [hk] at hxk
        cases hxk
        exact hjk rfl
      · rintro ⟨x, hx, hxk, hxs⟩
        rw [contains_push, Bool.or_eq_false_iff] at hxs
        refine ⟨⟨x, hx, hxk, hxs.1⟩, fun hjk => ?_⟩
        have hkk : x.key = e.key := by rw [hxk, hk, hjk]
        obtain ⟨p, hp⟩ := List.mem_iff_getElem?.1 hx
        obtain ⟨q, hq⟩ := List.mem_iff_getElem?.1 hem
        have e1 : (es.toList.map (·.key))[p]? = some x.key := by rw [List.getElem?_map, hp]; rfl
        have e2 : (es.toList.map (·.key))[q]? = some x.key := by rw [List.getElem?_map, hq, hkk]; rfl
        obtain rfl := nodup_at he.once e1 e2
        rw [hp] at hq
        obtain rfl := Option.some.inj hq
        have := hxs.2
        simp at this
    · have := run_entry_at (P := P) _ r b since seen es clock e hset.1 hb' hem he.born
      rw [hk] at this
      exact this

/-- 'delete(m, k)' in a loop over m. -/
theorem map_delete_in {t kt et ty : Nat} {ats : Array TypeId} {x y : TI} (hats : ats[0]? = some t) (ht : tget c.tb t = some x) (hx : x.kd = .map kt et) (hkt : tget c.tb kt = some y) (hy : y.kd = .int .i64)
    {w : World} {b r : Nat} {m : Int → Option Value} {left : Int → Prop} {cnt : Nat} (h : IR w b r m left cnt) (k : Int) (hleft : ¬ left k) {K : Value → World → Prop}
    (hK : ∀ o w' cnt', Upd w b o w' → cnt' ≤ cnt → IR w' b r (delM m k) left cnt' → K (.tuple #[]) w') : RunV c.P (Builtin.delete_ ats ty #[.map (some b), .int .i64 k]) w K := by
  have hne := h.ne
  obtain ⟨es, clock, since, seen, c0, hb, he, hr, hold, hsc, hsk, hl, rfl⟩ := h
  have hm := under_map hc ht hx
  have hq := under_int hc hkt hy
  have hck := MapKept.run_checkKey (P := c.P) (w := w) (k := .int .i64 k) hq (by simp [MapKept.IsKey]) es.isEmpty 9999
  rcases he.find .i64 k with ⟨h1, h0, h2⟩ | ⟨j, e, h1, h2, h3, h4⟩
  · have hf := MapKept.run_findKey (w := w) hq h1
    have hdel : delM m k = m := by
      funext j
      unfold delM
      split
      · rename_i hj; rw [hj, h0]
      · rfl
    refine ⟨_, { w with heap := w.heap.setIfInBounds b (.map es clock) }, ?_, hK (.map es clock) _ _ ⟨lt_of_get hb, rfl⟩ (Nat.le_refl _) ⟨es, clock, since, seen, c0, by simp [lt_of_get hb], hdel.symm ▸ he, ?_, hold, hsc, hsk, hl, rfl⟩⟩
    · simp [Builtin.delete_, hats, run_underlying hm, MapKept.run_getObj_map hb, hck, hf, MapKept.run_setObj_map _ hb, Result.andThen]
    · rw [Array.getElem?_setIfInBounds_ne (fun e => hne e.symm)]; exact hr
  · have hf := MapKept.run_findKey (w := w) hq h4
    obtain ⟨hd1, hd2⟩ := he.del h1 h2
    have hlt : j < es.size := by have := (List.getElem?_eq_some_iff.1 h1).1; simpa using this
    refine ⟨_, { w with heap := w.heap.setIfInBounds b (.map (es.eraseIdxIfInBounds j) clock) }, ?_, hK (.map (es.eraseIdxIfInBounds j) clock) _ _ ⟨lt_of_get hb, rfl⟩ ?_
      ⟨es.eraseIdxIfInBounds j, clock, since, seen, c0, by simp [lt_of_get hb], hd1, ?_, fun x hx => hold x (hd2 x hx), hsc, hsk, fun i => ?_, rfl⟩⟩
    · simp [Builtin.delete_, hats, run_underlying hm, MapKept.run_getObj_map hb, hck, hf, MapKept.run_setObj_map _ hb, Result.andThen]
    · have hl1 : (es.eraseIdxIfInBounds j).toList = es.toList.eraseIdx j := by rw [Array.eraseIdxIfInBounds, dif_pos hlt]; simp
      have e1 : (leftOf (es.eraseIdxIfInBounds j) seen).toList = (es.toList.eraseIdx j).filter (fun e => !seen.contains e.born) := by unfold leftOf; rw [Array.toList_filter, hl1]
      have e2 : (leftOf es seen).toList = es.toList.filter (fun e => !seen.contains e.born) := by unfold leftOf; rw [Array.toList_filter]
      have := ((List.eraseIdx_sublist es.toList j).filter (fun e => !seen.contains e.born)).length_le
      rw [← e1, ← e2] at this
      simpa using this
    · rw [Array.getElem?_setIfInBounds_ne (fun e => hne e.symm)]; exact hr
    · rw [hl i]
      constructor
      · rintro ⟨x, hx, hxk, hxs⟩
        refine ⟨x, ?_, hxk, hxs⟩
        have hl1 : (es.eraseIdxIfInBounds j).toList = es.toList.eraseIdx j := by rw [Array.eraseIdxIfInBounds, dif_pos hlt]; simp
        rw [hl1, List.mem_eraseIdx_iff_getElem?]
        obtain ⟨p, hp⟩ := List.mem_iff_getElem?.1 hx
        refine ⟨p, fun e' => ?_, hp⟩
        subst e'
        rw [h1] at hp
        obtain rfl := Option.some.inj hp
        exact hleft ((hl k).2 ⟨e, hx, h2, hxs⟩)
      · rintro ⟨x, hx, hxk, hxs⟩
        exact ⟨x, hd2 x hx, hxk, hxs⟩

/-- 'm[k] = v' in a loop over m, where k is there already. -/
theorem map_update_in {t kt et : Nat} {x y : TI} (ht : tget c.tb t = some x) (hx : x.kd = .map kt et) (hkt : tget c.tb kt = some y) (hy : y.kd = .int .i64)
    {w : World} {b r : Nat} {m : Int → Option Value} {left : Int → Prop} {cnt : Nat} (h : IR w b r m left cnt) (k : Int) (v : Value) (hin : m k ≠ none) {K : World → Prop}
    (hK : ∀ o w', Upd w b o w' → IR w' b r (setM m k v) left cnt → K w') : RunU c.P (Instr.mapUpdate t (.map (some b)) (.int .i64 k) v) w K := by
  have hne := h.ne
  obtain ⟨es, clock, since, seen, c0, hb, he, hr, hold, hsc, hsk, hl, rfl⟩ := h
  have hm := under_map hc ht hx
  have hq := under_int hc hkt hy
  have hck := MapKept.run_checkKey (P := c.P) (w := w) (k := .int .i64 k) hq (by simp [MapKept.IsKey]) false 9999
  rcases he.find .i64 k with ⟨h1, h0, h2⟩ | ⟨j, e, h1, h2, h3, h4⟩
  · exact absurd h0 hin
  · have hf := MapKept.run_findKey (w := w) hq h4
    have hks := MapKept.run_keyThatStays (P := c.P) (w := w) (d := .int .i64) (k := .int .i64 k) (by simp [MapKept.IsKey])
    have hej : ((es[j]?).map (·.key)).getD (.int .i64 k) = .int .i64 k := by
      rw [← Array.getElem?_toList, h1]; simp [h2]
    obtain ⟨es', hes'⟩ : ∃ es', es' = es.modify j (fun e => { e with key := .int .i64 k, val := v }) := ⟨_, rfl⟩
    have hl1 : es'.toList = es.toList.modify j (fun e => { e with key := .int .i64 k, val := v }) := by rw [hes']; simp
    have hpair : es'.toList.map (fun e => (e.key, e.born)) = es.toList.map (fun e => (e.key, e.born)) := by rw [hl1]; exact map_modify_eq _ _ _ _ e h1 (by simp [h2])
    have hborn : es'.toList.map (·.born) = es.toList.map (·.born) := by rw [hl1]; exact map_modify_eq _ _ _ _ e h1 rfl
    refine ⟨{ w with heap := w.heap.setIfInBounds b (.map es' clock) }, ?_, hK (.map es' clock) _ ⟨lt_of_get hb, rfl⟩ ⟨es', clock, since, seen, c0, by simp [lt_of_get hb], hes' ▸ he.set_old h1 h2 v, ?_, fun x hx => ?_, hsc, hsk, fun i => ?_, ?_⟩⟩
    · simp only [Instr.mapUpdate, Sem.run_bind, run_underlying hm, MapKept.run_getObj_map hb, hck, hf, Result.andThen, hej, hks, MapKept.run_setObj_map _ hb, hes']
    · rw [Array.getElem?_setIfInBounds_ne (fun e => hne e.symm)]; exact hr
    · have : x.born ∈ es.toList.map (·.born) := by rw [← hborn]; exact List.mem_map.2 ⟨x, hx, rfl⟩
      obtain ⟨z, hz, hzb⟩ := List.mem_map.1 this
      rw [← hzb]; exact hold z hz
    · rw [hl i]
      constructor
      · rintro ⟨x, hx, hxk, hxs⟩
        have : (x.key, x.born) ∈ es'.toList.map (fun e => (e.key, e.born)) := by rw [hpair]; exact List.mem_map.2 ⟨x, hx, rfl⟩
        obtain ⟨z, hz, hzb⟩ := List.mem_map.1 this
        simp only [Prod.mk.injEq] at hzb
        exact ⟨z, hz, hzb.1.trans hxk, by rw [hzb.2]; exact hxs⟩
      · rintro ⟨x, hx, hxk, hxs⟩
        have : (x.key, x.born) ∈ es.toList.map (fun e => (e.key, e.born)) := by rw [← hpair]; exact List.mem_map.2 ⟨x, hx, rfl⟩
        obtain ⟨z, hz, hzb⟩ := List.mem_map.1 this
        simp only [Prod.mk.injEq] at hzb
        exact ⟨z, hz, hzb.1.trans hxk, by rw [hzb.2]; exact hxs⟩
    · have hlen : ∀ (l : List MapEntry), (l.filter (fun e => !seen.contains e.born)).length = ((l.map (·.born)).filter (fun d => !seen.contains d)).length := by
        intro l
        rw [List.filter_map, List.length_map]
        rfl
      have e1 : (leftOf es' seen).size = (es'.toList.filter (fun e => !seen.contains e.born)).length := by unfold leftOf; rw [← Array.length_toList, Array.toList_filter]
      have e2 : (leftOf es seen).size = (es.toList.filter (fun e => !seen.contains e.born)).length := by unfold leftOf; rw [← Array.length_toList, Array.toList_filter]
      rw [e1, e2, hlen, hlen, hborn]

/-! append -/

/-- A slice in a block of its own, or nil. -/
abbrev Row (w : World) (e size : Nat) (v : Value) (n : Nat) (xs : List Value) : Prop := w.ownsRow 0 e size v n xs

omit hc in
theorem grown_tr {w w' : World} {row : Option Nat} (h : w.grownBy w' row) : Tr row.toList w w' :=
  ⟨h.size, fun b hb hn => h.block b hb (fun e => hn (by rw [← e]; simp)), h.tape, h.os, h.output⟩

omit hc in
theorem Row.tr {S : List Nat} {w w' : World} {e size n : Nat} {v : Value} {xs : List Value} (h : Row w e size v n xs) (t : Tr S w w') (hn : ∀ b, v.ownBlock = some b → b ∉ S) : Row w' e size v n xs := by
  obtain ⟨h1, h2⟩ := h
  refine ⟨h1, ?_⟩
  rcases h2 with h2 | ⟨g, cap, cur, rfl, h3, h4, h5⟩
  · exact .inl h2
  · exact .inr ⟨g, cap, cur, rfl, h3, t.get h4 (hn g rfl), h5⟩

omit hc in
theorem one_cell {v : Value} (h : one v = true) : v.oneCell' = true := by cases v <;> simp [one] at h <;> rfl

/-- append of the elements at an address. -/
theorem append_own {t e ty : Nat} {x y : TI} (ht : tget c.tb t = some x) (hx : x.kd = .slice e) (he : tget c.tb e = some y) (hsz : 0 < y.size)
    {w : World} {v : Value} {n : Nat} {xs : List Value} (h : Row w e y.size v n xs) (b o m cp : Nat) (news : List Value) (hl : news.length = m * y.size) (hnews : Cells w b o news) (h1 : news.all one = true)
    (h63 : n + m ≤ 1099511627776) (hby : y.bytes ≤ 128) {K : Value → World → Prop}
    (hK : ∀ v' w', Row w' e y.size v' (n + m) (xs ++ news) → Tr v.ownBlock.toList w w' → (v'.ownBlock = v.ownBlock ∨ v'.ownBlock = some w.heap.size) → (v' = .slice none 0 0 ↔ v = .slice none 0 0 ∧ m = 0) → K v' w') :
    RunV c.P (Builtin.append_ #[t, t] ty #[v, .slice (some ⟨b, o, none⟩) m cp]) w K := by
  obtain ⟨i, d, hi, hu, hs, hb, _, hkd, z, hz, hzl, hzz⟩ := hc.info he
  obtain ⟨i2, d2, _, hu2, _, _, _, hkd2, _⟩ := hc.info ht
  rw [kdOf_slice (hx.symm.trans hkd2)] at hu2
  have hmul : (n + m) * y.bytes ≤ 140737488355328 := by
    have := Nat.mul_le_mul h63 hby
    omega
  obtain ⟨v', w', hr, hrow, hg, hnil, hat⟩ := run_append_own_at (P := c.P) w 0 t ty e i z y.size y.bytes hu2 hi hz hs.symm hb.symm (by rw [← Array.length_toList, hzl, hzz]) hsz v n xs h ⟨b, o, none⟩ m cp news hl
    (fun j u hj => by rw [add_none]; exact hnews j u hj) (fun u hu => one_cell (List.all_eq_true.1 h1 u hu)) (by simp only [maxLen]; omega) hmul (Nat.zero_le _)
  exact ⟨v', w', hr, hK v' w' hrow (grown_tr hg) hat hnil⟩

end

end Go.E
