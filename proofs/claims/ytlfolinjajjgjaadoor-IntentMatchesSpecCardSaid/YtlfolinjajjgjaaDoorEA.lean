/- The calculus E, part A: worlds, and what a single operation does, in words of its own. -/
import Derived.OrdersIn
import Derived.LoopNIn
import Derived.Laws.Entries
namespace Go.E

/-! Worlds -/

/-- From w to w' nothing that stood in w has changed, but for the blocks of S. -/
structure Tr (S : List Nat) (w w' : World) : Prop where
  size : w.heap.size ≤ w'.heap.size
  keep : ∀ b, b < w.heap.size → b ∉ S → w'.heap[b]? = w.heap[b]?
  tape : w'.tape = w.tape
  os : w'.os = w.os
  out : w'.output = w.output

theorem Tr.refl (S : List Nat) (w : World) : Tr S w w := ⟨Nat.le_refl _, fun _ _ _ => rfl, rfl, rfl, rfl⟩

theorem Tr.mono {S S' : List Nat} {w w' : World} (h : Tr S w w') (hs : ∀ b, b ∈ S → b < w.heap.size → b ∈ S') : Tr S' w w' :=
  ⟨h.size, fun b hb hn => h.keep b hb fun hm => hn (hs b hm hb), h.tape, h.os, h.out⟩

theorem Tr.trans {S S' S'' : List Nat} {w w1 w2 : World} (h : Tr S w w1) (h' : Tr S' w1 w2) (hs : ∀ b, b ∈ S → b ∈ S'') (hs' : ∀ b, b ∈ S' → b < w.heap.size → b ∈ S'') : Tr S'' w w2 :=
  ⟨Nat.le_trans h.size h'.size, fun b hb hn => by
    rw [h'.keep b (Nat.lt_of_lt_of_le hb h.size) (fun hm => hn (hs' b hm hb)), h.keep b hb (fun hm => hn (hs b hm))],
   h'.tape.trans h.tape, h'.os.trans h.os, h'.out.trans h.out⟩

theorem Tr.ext {w w1 w2 : World} (h : Tr [] w w1) (h' : Tr [] w1 w2) : Tr [] w w2 := h.trans h' (fun _ h => h) (fun _ h _ => h)

theorem Tr.same {S : List Nat} {w w1 w2 : World} (h : Tr S w w1) (h' : Tr S w1 w2) : Tr S w w2 := h.trans h' (fun _ h => h) (fun _ h _ => h)

theorem Tr.of_ext {S : List Nat} {w w' : World} (h : Tr [] w w') : Tr S w w' := h.mono (fun b h _ => by cases h)

/-- Block b is a row of cells. -/
def Blk (w : World) (b : Nat) (l : List Value) (T : Nat) : Prop := w.heap[b]? = some (.cells l.toArray T (0, 0))

theorem lt_of_get {w : World} {b : Nat} {o : Obj} (h : w.heap[b]? = some o) : b < w.heap.size := (Array.getElem?_eq_some_iff.1 h).1

theorem Blk.lt {w : World} {b : Nat} {l : List Value} {T : Nat} (h : Blk w b l T) : b < w.heap.size := lt_of_get h

theorem Tr.get {S : List Nat} {w w' : World} {b : Nat} {o : Obj} (t : Tr S w w') (h : w.heap[b]? = some o) (hn : b ∉ S) : w'.heap[b]? = some o := by
  rw [t.keep b (lt_of_get h) hn]; exact h

theorem Blk.tr {S : List Nat} {w w' : World} {b : Nat} {l : List Value} {T : Nat} (h : Blk w b l T) (t : Tr S w w') (hn : b ∉ S) : Blk w' b l T := t.get h hn
theorem Blk.ext {w w' : World} {b : Nat} {l : List Value} {T : Nat} (h : Blk w b l T) (t : Tr [] w w') : Blk w' b l T := t.get h (by simp)

theorem Blk.cell {w : World} {b : Nat} {l : List Value} {T : Nat} (h : Blk w b l T) {o : Nat} {v : Value} (hv : l[o]? = some v) : w.cell? ⟨b, o, none⟩ = some v := by
  unfold Blk at h
  simp [World.cell?, h, hv]

theorem Blk.inj {w : World} {b : Nat} {l l' : List Value} {T T' : Nat} (h : Blk w b l T) (h' : Blk w b l' T') : l = l' ∧ T = T' := by
  unfold Blk at h h'
  rw [h] at h'
  simp at h'
  exact h'

/-- A cell stands on. -/
theorem Tr.cell {S : List Nat} {w w' : World} (t : Tr S w w') {b o : Nat} {v : Value} (h : w.cell? ⟨b, o, none⟩ = some v) (hn : b ∉ S) : w'.cell? ⟨b, o, none⟩ = some v := by
  have hb : b < w.heap.size := by
    simp only [World.cell?] at h
    cases hh : w.heap[b]? with
    | none => simp [hh] at h
    | some x => exact lt_of_get hh
  simp only [World.cell?] at h ⊢
  rw [t.keep b hb hn]; exact h

theorem cell_lt {w : World} {b o : Nat} {v : Value} (h : w.cell? ⟨b, o, none⟩ = some v) : b < w.heap.size := by
  simp only [World.cell?] at h
  cases hh : w.heap[b]? with
  | none => simp [hh] at h
  | some x => exact lt_of_get hh

/-- The cells from offset o on are cs. -/
def Cells (w : World) (b o : Nat) (cs : List Value) : Prop := ∀ i v, cs[i]? = some v → w.cell? ⟨b, o + i, none⟩ = some v

theorem Cells.tr {S : List Nat} {w w' : World} {b o : Nat} {cs : List Value} (h : Cells w b o cs) (t : Tr S w w') (hn : b ∉ S) : Cells w' b o cs :=
  fun i v hv => t.cell (h i v hv) hn
theorem Cells.ext {w w' : World} {b o : Nat} {cs : List Value} (h : Cells w b o cs) (t : Tr [] w w') : Cells w' b o cs := h.tr t (by simp)

theorem Blk.cells {w : World} {b : Nat} {l : List Value} {T : Nat} (h : Blk w b l T) (o : Nat) (cs : List Value) (hc : ∀ i v, cs[i]? = some v → l[o + i]? = some v) : Cells w b o cs :=
  fun i v hv => h.cell (hc i v hv)

theorem Blk.all {w : World} {b : Nat} {l : List Value} {T : Nat} (h : Blk w b l T) : Cells w b 0 l := h.cells 0 l (fun i v hv => by simpa using hv)

/-- w' is w with one block more, b. -/
structure New (w : World) (b : Nat) (o : Obj) (w' : World) : Prop where
  num : b = w.heap.size
  eq : w' = { w with heap := w.heap.push o }

theorem New.size {w w' : World} {b : Nat} {o : Obj} (h : New w b o w') : w'.heap.size = w.heap.size + 1 := by rw [h.eq]; simp
theorem New.get {w w' : World} {b : Nat} {o : Obj} (h : New w b o w') : w'.heap[b]? = some o := by rw [h.eq, h.num]; simp
theorem New.blk {w w' : World} {b : Nat} {l : List Value} {T : Nat} (h : New w b (.cells l.toArray T) w') : Blk w' b l T := h.get
theorem New.tr {w w' : World} {b : Nat} {o : Obj} (h : New w b o w') : Tr [] w w' := by
  have hz := h.size
  refine ⟨by omega, fun c hc _ => ?_, by rw [h.eq], by rw [h.eq], by rw [h.eq]⟩
  rw [h.eq]
  simp only [Array.getElem?_push]
  rw [if_neg (by omega)]
theorem New.ne {w w' : World} {b c : Nat} {o x : Obj} (h : New w b o w') (hc : w.heap[c]? = some x) : c ≠ b := by
  have := lt_of_get hc
  have := h.num
  omega

/-- w' is w with block b turned to o. -/
structure Upd (w : World) (b : Nat) (o : Obj) (w' : World) : Prop where
  lt : b < w.heap.size
  eq : w' = { w with heap := w.heap.setIfInBounds b o }

theorem Upd.size {w w' : World} {b : Nat} {o : Obj} (h : Upd w b o w') : w'.heap.size = w.heap.size := by rw [h.eq]; simp
theorem Upd.get {w w' : World} {b : Nat} {o : Obj} (h : Upd w b o w') : w'.heap[b]? = some o := by rw [h.eq]; simp [h.lt]
theorem Upd.blk {w w' : World} {b : Nat} {l : List Value} {T : Nat} (h : Upd w b (.cells l.toArray T) w') : Blk w' b l T := h.get
theorem Upd.tr {w w' : World} {b : Nat} {o : Obj} (h : Upd w b o w') : Tr [b] w w' := by
  have hz := h.size
  refine ⟨by omega, fun c hc hn => ?_, by rw [h.eq], by rw [h.eq], by rw [h.eq]⟩
  rw [h.eq]
  have : b ≠ c := fun e => hn (by simp [e])
  simp [Array.getElem?_setIfInBounds_ne this]

theorem Upd.ext {w0 w w' : World} {b : Nat} {o : Obj} (h : Upd w b o w') (t : Tr [] w0 w) (hb : w0.heap.size ≤ b) : Tr [] w0 w' :=
  t.trans h.tr (fun _ h => h) (fun c hc hlt => by simp at hc; omega)

/-! The lists of a row -/

def splice (l : List Value) (o n : Nat) (vs : List Value) : List Value := l.take o ++ (vs ++ l.drop (o + n))

theorem splice_len {l vs : List Value} {o n : Nat} (h : o + n ≤ l.length) (hv : vs.length = n) : (splice l o n vs).length = l.length := by
  simp [splice]; omega

theorem splice_one {l : List Value} {o : Nat} {v : Value} (h : o < l.length) : splice l o 1 [v] = l.set o v := by
  simp only [splice, List.singleton_append]
  rw [List.set_eq_take_append_cons_drop, if_pos h]

/-- A value that one cell holds. -/
def one : Value → Bool
  | .agg _ | .tuple _ => false
  | _ => true

/-! Types -/

inductive Kd where
  | other | str | slice (e : Nat) | array (n e : Nat) | map (k e : Nat) | int (k : IntKind) | struct (fs : List (Nat × Nat)) | ptr (e : Nat)

structure TI where
  size : Nat
  bytes : Nat
  agg : Bool
  zero : List Value
  kd : Kd

def tget : List (Nat × TI) → Nat → Option TI
  | [], _ => none
  | (i, x) :: r, t => bif Nat.beq i t then some x else tget r t

/-- What the table says of a type. -/
def kdOf (P : Program) : TypeDesc → Kd
  | .slice e => .slice e
  | .string => .str
  | .array n e => .array n e
  | .map k e => .map k e
  | .int k => .int k
  | .pointer e => .ptr e
  | .struct fs => bif fs.toList.all (fun f => (P.info? f.type).isSome) then .struct (fs.toList.map fun f => (f.offset, P.cellsOf f.type)) else .other
  | _ => .other

def tiOf (P : Program) (t : Nat) : Option TI :=
  match P.info? t, P.underlying t with
  | some i, some d => some
    { size := i.size, bytes := i.bytes, agg := (match d with | .struct _ | .array _ _ => true | _ => false)
      zero := (match i.zero with | some z => z.cells.toList | none => []), kd := kdOf P d }
  | _, _ => none

def okFn (P : Program) (f : Nat) : Bool :=
  match P.funcs[f]? with
  | some fn => !(fn.name == "runtime.NumGoroutine") && fn.body.isSome
  | none => false

/-- What is known of a program: its table of types, and which functions have a body. -/
structure Cx where
  P : Program
  tb : List (Nat × TI)
  lo : Nat
  hi : Nat

structure Cx.Ok (c : Cx) : Prop where
  types : ∀ t x, tget c.tb t = some x → tiOf c.P t = some x
  zeros : ∀ t x, tget c.tb t = some x → ∃ z i, c.P.info? t = some i ∧ i.zero = some z ∧ z.cells.size = i.size
  funcs : ∀ f, c.lo ≤ f → f < c.hi → okFn c.P f = true
  mixed : c.P.follows .mixedOrders = true

/-! Frames -/

abbrev Env := List (Nat × Value)

def get : Env → Nat → Option Value
  | [], _ => none
  | (j, v) :: r, i => bif Nat.beq j i then some v else get r i

def ev (e : Env) : Operand → Option Value
  | .tmp t => get e t
  | .const v => some v
  | .global g => some (.pointer (some ⟨g, 0, none⟩))
  | .func f => some (.func (.func f) #[] #[])

def evs (e : Env) : List Operand → Option (List Value)
  | [] => some []
  | x :: r => match ev e x, evs e r with
    | some v, some l => some (v :: l)
    | _, _ => none

def Ag (N : Nat) (e : Env) (a : Act) : Prop := a.tmps.size = N ∧ ∀ i v, get e i = some v → a.tmps[i]? = some v

theorem Ag.ev {N : Nat} {e : Env} {a : Act} (h : Ag N e a) {x : Operand} {v : Value} (hx : ev e x = some v) : a.eval x = v := by
  cases x with
  | tmp t => simp only [E.ev] at hx; simp [Act.eval, h.2 t v hx]
  | const c => simpa [E.ev, Act.eval] using hx
  | global g => simpa [E.ev, Act.eval] using hx
  | func f => simpa [E.ev, Act.eval] using hx

theorem Ag.evs {N : Nat} {e : Env} {a : Act} (h : Ag N e a) : ∀ {l : List Operand} {vs : List Value}, evs e l = some vs → l.map a.eval = vs
  | [], vs, hx => by simp [E.evs] at hx; simp [hx]
  | x :: r, vs, hx => by
    simp only [E.evs] at hx
    split at hx
    · rename_i v l h1 h2
      simp at hx
      subst hx
      simp [h.ev h1, h.evs h2]
    · simp at hx

/-- A value laid into a slot. -/
def put (N : Nat) (e : Env) (dst : Option Nat) (v : Value) (K : Env → Prop) : Prop :=
  match dst with
  | none => K e
  | some d => bif Nat.blt d N then K ((d, v) :: e) else False

theorem Ag.put {N : Nat} {e : Env} {a : Act} (h : Ag N e a) {dst : Option Nat} {v : Value} {K : Env → Prop} (hp : E.put N e dst v K) : ∃ e', Ag N e' (a.put dst v) ∧ K e' := by
  cases dst with
  | none => exact ⟨e, h, hp⟩
  | some d =>
    simp only [E.put] at hp
    cases hd : Nat.blt d N with
    | false => simp [hd] at hp
    | true =>
      simp only [hd, cond_true] at hp
      have hlt : d < N := by simpa [Nat.blt_eq] using hd
      refine ⟨_, ⟨?_, fun i u hi => ?_⟩, hp⟩
      · simp [Act.put, h.1]
      · simp only [E.get] at hi
        cases hb : Nat.beq d i with
        | true =>
          have : d = i := Nat.eq_of_beq_eq_true hb
          subst this
          simp at hi
          subst hi
          have hs := h.1
          simp only [Act.put]
          simp [hs, hlt]
        | false =>
          simp only [hb, cond_false] at hi
          have hne : d ≠ i := fun e => by subst e; simp at hb
          simp only [Act.put]
          rw [Array.getElem?_setIfInBounds_ne hne]
          exact h.2 i u hi

end Go.E
