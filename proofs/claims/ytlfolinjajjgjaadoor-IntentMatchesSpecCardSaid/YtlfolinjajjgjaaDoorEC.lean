/- The calculus E, part C: what an operation yields. -/
import Derived.Test.YtlfolinjajjgjaaDoorEB
namespace Go.E

theorem run_newVar (P : Program) (w : World) (t : Nat) (v : Value) : ∃ b w', (newVar t v).run P w = .ok ⟨b, 0, none⟩ w' ∧ New w b (.cells (vcells v).toArray t) w' := by
  refine ⟨w.heap.size, { w with heap := w.heap.push (.cells (vcells v).toArray t) }, ?_, rfl, rfl⟩
  have : v.cells = (vcells v).toArray := by rw [← vcells_eq]
  simp [newVar, newRow, newObj, Sem.run, this]

/-- A new variable. -/
def Mk (w : World) (t : Nat) (l : List Value) (K : Value → World → Prop) : Prop :=
  ∀ b w', New w b (.cells l.toArray t) w' → K (.pointer (some ⟨b, 0, none⟩)) w'

theorem run_alloc {c : Cx} (hc : c.Ok) {t : Nat} {x : TI} (ht : tget c.tb t = some x) {w : World} {K : Value → World → Prop} (h : Mk w t x.zero K) :
    RunV c.P (Instr.alloc t true (.tuple #[])) w K := by
  obtain ⟨z, hz, hl, _⟩ := run_zero hc ht
  obtain ⟨b, w', hr, hn⟩ := run_newVar c.P w t z
  have : vcells z = x.zero := by rw [← vcells_eq]; exact hl
  rw [this] at hn
  exact ⟨_, w', by simp [Instr.alloc, hz, hr], h b w' hn⟩

theorem run_box {P : Program} {t : Nat} {v : Value} {w : World} {K : Value → World → Prop} (h : Mk w t (vcells v) K) : RunV P (Instr.box t v) w K := by
  obtain ⟨b, w', hr, hn⟩ := run_newVar P w t v
  exact ⟨_, w', by simp [Instr.box, hr], h b w' hn⟩

/-! build -/

def fillL (place : Nat → Option (Nat × Nat)) : List Value → List (Nat × Value) → Option (List Value)
  | cells, [] => some cells
  | cells, (i, v) :: rest =>
    match place i with
    | none => none
    | some (off, size) => if (vcells v).length = size ∧ off + size ≤ cells.length then fillL place (splice cells off size (vcells v)) rest else none

theorem foldl_set (off : Nat) : ∀ (vs : List Value) (k : Nat) (l : List Value), off + k + vs.length ≤ l.length →
    (vs.zipIdx k).foldl (fun (cs : Array Value) (p : Value × Nat) => cs.setIfInBounds (off + p.2) p.1) l.toArray = (splice l (off + k) vs.length vs).toArray := by
  intro vs
  induction vs with
  | nil => intro k l _; simp [splice]
  | cons v r ih =>
    intro k l hl
    simp only [List.length_cons] at hl
    simp only [List.zipIdx_cons, List.foldl_cons]
    rw [show l.toArray.setIfInBounds (off + k) v = (l.set (off + k) v).toArray from by simp, ih (k + 1) _ (by simp; omega)]
    congr 1
    have e1 : (l.set (off + k) v).take (off + (k + 1)) = l.take (off + k) ++ [v] := by
      rw [← Nat.add_assoc, List.take_succ_eq_append_getElem (by simp; omega)]
      simp [List.take_set_of_le]
    have e2 : (l.set (off + k) v).drop (off + (k + 1) + r.length) = l.drop (off + k + (r.length + 1)) := by
      rw [List.drop_set_of_lt (by omega)]
      congr 1
      omega
    simp only [splice, List.length_cons, e1, e2]
    simp

theorem fill_eq (place : Nat → Option (Nat × Nat)) : ∀ (ps : List (Nat × Value)) (l l' : List Value), fillL place l ps = some l' → Instr.fill place l.toArray ps = some l'.toArray := by
  intro ps
  induction ps with
  | nil => intro l l' h; simp only [fillL, Option.some.injEq] at h; subst h; rfl
  | cons p r ih =>
    obtain ⟨i, v⟩ := p
    intro l l' h
    simp only [fillL] at h
    simp only [Instr.fill]
    cases hp : place i with
    | none => simp [hp] at h
    | some q =>
      obtain ⟨off, size⟩ := q
      simp only [hp] at h
      split at h
      · rename_i hcond
        obtain ⟨h1, h2⟩ := hcond
        have hvc : v.cells = (vcells v).toArray := by rw [← vcells_eq]
        have hsz : v.cells.size = size := by rw [hvc]; simpa using h1
        dsimp only
        rw [if_neg (by simp [hsz]; omega)]
        have := ih _ _ h
        rw [← this]
        congr 1
        rw [hvc]
        have hf := foldl_set off (vcells v) 0 l (by omega)
        rw [h1] at hf
        rw [show off + 0 = off from rfl] at hf
        rw [← hf]
        simp
      · simp at h

def evParts (e : Env) : List (Nat × Operand) → Option (List (Nat × Value))
  | [] => some []
  | (i, x) :: r => match ev e x, evParts e r with
    | some v, some l => some ((i, v) :: l)
    | _, _ => none

theorem Ag.evParts {N : Nat} {e : Env} {a : Act} (h : Ag N e a) : ∀ {l : List (Nat × Operand)} {vs : List (Nat × Value)}, E.evParts e l = some vs → l.map (fun (i, x) => (i, a.eval x)) = vs
  | [], vs, hx => by simp [E.evParts] at hx; simp [hx]
  | (i, x) :: r, vs, hx => by
    simp only [E.evParts] at hx
    split at hx
    · rename_i v l h1 h2
      simp at hx
      subst hx
      simp [h.ev h1, h.evParts h2]
    · simp at hx

def buildK (c : Cx) (t : Nat) (ps : List (Nat × Value)) (K : Value → Prop) : Prop :=
  match tget c.tb t with
  | some x => match x.kd with
    | .struct fs => ∃ cs, fillL (fs[·]?) x.zero ps = some cs ∧ K (.agg cs.toArray)
    | .array _ e => match tget c.tb e with
      | some y => ∃ cs, fillL (fun i => some (i * y.size, y.size)) x.zero ps = some cs ∧ K (.agg cs.toArray)
      | none => False
    | _ => False
  | none => False

theorem mapM_sizes {P : Program} (w : World) : ∀ (l : List Field), (∀ f ∈ l, ∃ i, P.info? f.type = some i) →
    (l.mapM (fun f => do pure (f.offset, ← sizeOf f.type) : Field → Sem (Nat × Nat))).run P w = .ok (l.map fun f => (f.offset, P.cellsOf f.type)) w := by
  intro l
  induction l with
  | nil => intro _; simp
  | cons f r ih =>
    intro h
    obtain ⟨i, hi⟩ := h f (by simp)
    have hr := ih (fun g hg => h g (by simp [hg]))
    have hs : (sizeOf f.type).run P w = .ok (P.cellsOf f.type) w := by simp [sizeOf, typeInfo, hi, Program.cellsOf]
    simp only [List.mapM_cons, Sem.run_bind, hs, Result.andThen_ok, Sem.run_pure]
    rw [hr]
    rfl

end Go.E
