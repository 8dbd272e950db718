/- The calculus E, part B: a single operation. -/
import Derived.Test.YtlfolinjajjgjaaDoorEA
namespace Go.E

def RunV (P : Program) (s : Sem Value) (w : World) (K : Value → World → Prop) : Prop := ∃ v w', s.run P w = .ok v w' ∧ K v w'
def RunU (P : Program) (s : Sem Unit) (w : World) (K : World → Prop) : Prop := ∃ w', s.run P w = .ok () w' ∧ K w'

/-- The call returns, and what it returns is as Φ says. -/
def Ret (Φ : Value → World → Prop) : Ending → World → Prop := fun e w => ∃ v, e = .returned v ∧ Φ v w

def vcells : Value → List Value
  | .agg cs => cs.toList
  | v => [v]

theorem vcells_eq (v : Value) : v.cells.toList = vcells v := by cases v <;> rfl

/-- A test: both ways. -/
def brP (p : Prop) (A B : Prop) : Prop := (p → A) ∧ (¬p → B)

def shiftv (op : BinOp) (k : IntKind) (a b : Int) : Int :=
  match op with
  | .shl => k.wrap (a * 2 ^ (min b.toNat k.bits))
  | _ => a.fdiv (2 ^ (min b.toNat k.bits))

def arK (op : BinOp) (k : IntKind) (a b : Int) (K : Value → Prop) : Prop :=
  match op with
  | .add => ∃ c, k.wrap (a + b) = c ∧ K (.int k c)
  | .sub => ∃ c, k.wrap (a - b) = c ∧ K (.int k c)
  | .mul => ∃ c, k.wrap (a * b) = c ∧ K (.int k c)
  | .quo => ∃ c, b ≠ 0 ∧ k.wrap (a.tdiv b) = c ∧ K (.int k c)
  | .rem => ∃ c, b ≠ 0 ∧ a.tmod b = c ∧ K (.int k c)
  | .and => ∃ c, bits .and k a b = c ∧ K (.int k c)
  | .or => ∃ c, bits .or k a b = c ∧ K (.int k c)
  | .xor => ∃ c, bits .xor k a b = c ∧ K (.int k c)
  | .andNot => ∃ c, bits .andNot k a b = c ∧ K (.int k c)
  | .eql => brP (a = b) (K (.bool true)) (K (.bool false))
  | .neq => brP (a = b) (K (.bool false)) (K (.bool true))
  | .lss => brP (a < b) (K (.bool true)) (K (.bool false))
  | .leq => brP (a ≤ b) (K (.bool true)) (K (.bool false))
  | .gtr => brP (b < a) (K (.bool true)) (K (.bool false))
  | .geq => brP (b ≤ a) (K (.bool true)) (K (.bool false))
  | _ => False

def isShift : BinOp → Bool
  | .shl | .shr => true
  | _ => false

def PureV (P : Program) (s : Sem Value) (K : Value → Prop) : Prop := ∃ v, (∀ w, s.run P w = .ok v w) ∧ K v

theorem PureV.run {P : Program} {s : Sem Value} {w : World} {K : Value → World → Prop} (h : PureV P s fun v => K v w) : RunV P s w K :=
  let ⟨v, hr, hK⟩ := h; ⟨v, w, hr w, hK⟩

/-- Two integers. -/
def binI (op : BinOp) (k : IntKind) (a : Int) (k' : IntKind) (b : Int) (K : Value → Prop) : Prop :=
  bif isShift op then ∃ c, 0 ≤ b ∧ shiftv op k a b = c ∧ K (.int k c)
  else bif decide (k = k') then arK op k a b K else False

theorem binI_run {P : Program} {op : BinOp} {t : TypeId} {x y : Operand} {k k' : IntKind} {a b : Int} {K : Value → Prop} (h : binI op k a k' b K) :
    PureV P (do eqGuard op t x y (.int k a) (.int k' b); binOp op t (.int k a) (.int k' b)) K := by
  unfold binI at h
  cases hs : isShift op with
  | true =>
    simp only [hs, cond_true] at h
    obtain ⟨c, hb, rfl, hK⟩ := h
    refine ⟨_, fun w => ?_, hK⟩
    have hnb : ¬ b < 0 := by omega
    cases op <;> simp [isShift] at hs <;> simp [eqGuard, binOp, Op.shift, hnb, shiftv]
  | false =>
    simp only [hs, cond_false] at h
    cases hk : decide (k = k') with
    | false => simp [hk] at h
    | true =>
      simp only [hk, cond_true] at h
      have hkk : k = k' := by simpa using hk
      subst hkk
      have cmp : ∀ (p : Prop) (r : Bool), (r = true ↔ p) → brP p (K (.bool true)) (K (.bool false)) → K (.bool r) := fun p r hr hb => by
        cases r with
        | true => exact hb.1 (hr.1 rfl)
        | false => exact hb.2 (fun hp => by have := hr.2 hp; simp at this)
      cases op <;> simp [isShift] at hs <;> simp only [arK] at h <;> (try exact h.elim)
      case add => obtain ⟨c, rfl, hK⟩ := h; exact ⟨_, fun w => by simp [eqGuard, binOp, Op.intArith], hK⟩
      case sub => obtain ⟨c, rfl, hK⟩ := h; exact ⟨_, fun w => by simp [eqGuard, binOp, Op.intArith], hK⟩
      case mul => obtain ⟨c, rfl, hK⟩ := h; exact ⟨_, fun w => by simp [eqGuard, binOp, Op.intArith], hK⟩
      case quo => obtain ⟨c, hb, rfl, hK⟩ := h; exact ⟨_, fun w => by simp [eqGuard, binOp, Op.intDiv, hb], hK⟩
      case rem => obtain ⟨c, hb, rfl, hK⟩ := h; exact ⟨_, fun w => by simp [eqGuard, binOp, Op.intDiv, hb], hK⟩
      case and => obtain ⟨c, rfl, hK⟩ := h; exact ⟨_, fun w => by simp [eqGuard, binOp, Op.intBits, bits], hK⟩
      case or => obtain ⟨c, rfl, hK⟩ := h; exact ⟨_, fun w => by simp [eqGuard, binOp, Op.intBits, bits], hK⟩
      case xor => obtain ⟨c, rfl, hK⟩ := h; exact ⟨_, fun w => by simp [eqGuard, binOp, Op.intBits, bits], hK⟩
      case andNot => obtain ⟨c, rfl, hK⟩ := h; exact ⟨_, fun w => by simp [eqGuard, binOp, Op.intBits, bits], hK⟩
      case eql => exact ⟨_, fun w => by simp [eqGuard, binOp, Op.intCmp], cmp _ (a == b) (by simp) h⟩
      case neq => exact ⟨_, fun w => by simp [eqGuard, binOp, Op.intCmp], cmp (¬ a = b) (a != b) (by simp) ⟨h.2, fun hn => h.1 (Decidable.not_not.1 hn)⟩⟩
      case lss => exact ⟨_, fun w => by simp [eqGuard, binOp, Op.intCmp], cmp _ (decide (a < b)) (by simp) h⟩
      case leq => exact ⟨_, fun w => by simp [eqGuard, binOp, Op.intCmp], cmp _ (decide (a ≤ b)) (by simp) h⟩
      case gtr => exact ⟨_, fun w => by simp [eqGuard, binOp, Op.intCmp], cmp _ (decide (b < a)) (by simp) h⟩
      case geq => exact ⟨_, fun w => by simp [eqGuard, binOp, Op.intCmp], cmp _ (decide (b ≤ a)) (by simp) h⟩

def binK (P : Program) (op : BinOp) (t : TypeId) (x y : Operand) (va vb : Value) (w : World) (K : Value → World → Prop) : Prop :=
  match va, vb with
  | .int k a, .int k' b => binI op k a k' b (fun v => K v w)
  | va, vb => RunV P (do eqGuard op t x y va vb; binOp op t va vb) w K

theorem binK_run {P : Program} {op : BinOp} {t : TypeId} {x y : Operand} {va vb : Value} {w : World} {K : Value → World → Prop} (h : binK P op t x y va vb w K) :
    RunV P (do eqGuard op t x y va vb; binOp op t va vb) w K := by
  unfold binK at h
  split at h
  · exact (binI_run h).run
  · exact h

theorem kdOf_struct_ne {P : Program} {fs : Array Field} {k : Kd} (h : k = kdOf P (.struct fs)) : k = .other ∨ ∃ gs, k = .struct gs := by
  simp only [kdOf] at h
  cases hb : fs.toList.all (fun f => (P.info? f.type).isSome) with
  | true => rw [hb] at h; exact .inr ⟨_, h⟩
  | false => rw [hb] at h; exact .inl h
theorem kdOf_slice {P : Program} {d : TypeDesc} {e : Nat} (h : Kd.slice e = kdOf P d) : d = .slice e := by
  cases d with
  | struct fs => rcases kdOf_struct_ne h with h | ⟨_, h⟩ <;> cases h
  | _ => simp only [kdOf] at h; first | (cases h; rfl) | cases h
theorem kdOf_array {P : Program} {d : TypeDesc} {n e : Nat} (h : Kd.array n e = kdOf P d) : d = .array n e := by
  cases d with
  | struct fs => rcases kdOf_struct_ne h with h | ⟨_, h⟩ <;> cases h
  | _ => simp only [kdOf] at h; first | (cases h; rfl) | cases h
theorem kdOf_str {P : Program} {d : TypeDesc} (h : Kd.str = kdOf P d) : d = .string := by
  cases d with
  | struct fs => rcases kdOf_struct_ne h with h | ⟨_, h⟩ <;> cases h
  | _ => simp only [kdOf] at h; first | (cases h; rfl) | cases h
theorem kdOf_map {P : Program} {d : TypeDesc} {n e : Nat} (h : Kd.map n e = kdOf P d) : d = .map n e := by
  cases d with
  | struct fs => rcases kdOf_struct_ne h with h | ⟨_, h⟩ <;> cases h
  | _ => simp only [kdOf] at h; first | (cases h; rfl) | cases h
theorem kdOf_int {P : Program} {d : TypeDesc} {e : IntKind} (h : Kd.int e = kdOf P d) : d = .int e := by
  cases d with
  | struct fs => rcases kdOf_struct_ne h with h | ⟨_, h⟩ <;> cases h
  | _ => simp only [kdOf] at h; first | (cases h; rfl) | cases h

/-! Memory -/

section
variable {c : Cx} (hc : c.Ok)
include hc

theorem Cx.Ok.info {t : Nat} {x : TI} (h : tget c.tb t = some x) : ∃ i d, c.P.info? t = some i ∧ c.P.underlying t = some d ∧ x.size = i.size ∧ x.bytes = i.bytes ∧
    x.agg = (match d with | .struct _ | .array _ _ => true | _ => false) ∧ x.kd = kdOf c.P d ∧ (∃ z, i.zero = some z ∧ z.cells.toList = x.zero ∧ x.zero.length = x.size) := by
  have h1 := hc.types t x h
  obtain ⟨z, i0, hi0, hz, hs⟩ := hc.zeros t x h
  unfold tiOf at h1
  rw [hi0] at h1
  cases hu : c.P.underlying t with
  | none => simp [hu] at h1
  | some d =>
    simp only [hu, hz, Option.some.injEq] at h1
    subst h1
    exact ⟨i0, d, hi0, rfl, rfl, rfl, rfl, rfl, z, hz, rfl, by simpa using hs⟩

theorem run_sizeOf {t : Nat} {x : TI} (h : tget c.tb t = some x) (w : World) : (sizeOf t).run c.P w = .ok x.size w := by
  obtain ⟨i, d, hi, _, hs, _⟩ := hc.info h
  simp [sizeOf, typeInfo, hi, hs]

theorem run_bytes {t : Nat} {x : TI} (h : tget c.tb t = some x) (w : World) : ∃ i, (typeInfo t).run c.P w = .ok i w ∧ i.bytes = x.bytes := by
  obtain ⟨i, d, hi, _, _, hb, _⟩ := hc.info h
  exact ⟨i, by simp [typeInfo, hi], hb.symm⟩

theorem run_isAgg {t : Nat} {x : TI} (h : tget c.tb t = some x) (w : World) : (isAgg t).run c.P w = .ok x.agg w := by
  obtain ⟨i, d, _, hu, _, _, ha, _⟩ := hc.info h
  rw [ha]
  cases d <;> simp [isAgg, underlying, hu]

theorem run_zero {t : Nat} {x : TI} (h : tget c.tb t = some x) : ∃ z, (∀ w, (zeroValue t).run c.P w = .ok z w) ∧ z.cells.toList = x.zero ∧ x.zero.length = x.size := by
  obtain ⟨i, d, hi, _, _, _, _, _, z, hz, hl, hs⟩ := hc.info h
  exact ⟨z, fun w => by simp [zeroValue, typeInfo, hi, hz], hl, hs⟩

theorem run_under_slice {t e : Nat} {x : TI} (h : tget c.tb t = some x) (hk : x.kd = .slice e) (w : World) : (underlying t).run c.P w = .ok (.slice e) w := by
  obtain ⟨i, d, _, hu, _, _, _, hkd, _⟩ := hc.info h
  rw [kdOf_slice (hk.symm.trans hkd)] at hu
  simp [underlying, hu]

theorem run_under_array {t n e : Nat} {x : TI} (h : tget c.tb t = some x) (hk : x.kd = .array n e) (w : World) : (underlying t).run c.P w = .ok (.array n e) w := by
  obtain ⟨i, d, _, hu, _, _, _, hkd, _⟩ := hc.info h
  rw [kdOf_array (hk.symm.trans hkd)] at hu
  simp [underlying, hu]

theorem run_under_map {t k e : Nat} {x : TI} (h : tget c.tb t = some x) (hk : x.kd = .map k e) (w : World) : (underlying t).run c.P w = .ok (.map k e) w := by
  obtain ⟨i, d, _, hu, _, _, _, hkd, _⟩ := hc.info h
  rw [kdOf_map (hk.symm.trans hkd)] at hu
  simp [underlying, hu]

theorem run_under_str {t : Nat} {x : TI} (h : tget c.tb t = some x) (hk : x.kd = .str) (w : World) : (underlying t).run c.P w = .ok .string w := by
  obtain ⟨i, d, _, hu, _, _, _, hkd, _⟩ := hc.info h
  rw [kdOf_str (hk.symm.trans hkd)] at hu
  simp [underlying, hu]

theorem run_under_int {t : Nat} {k : IntKind} {x : TI} (h : tget c.tb t = some x) (hk : x.kd = .int k) (w : World) : (underlying t).run c.P w = .ok (.int k) w := by
  obtain ⟨i, d, _, hu, _, _, _, hkd, _⟩ := hc.info h
  rw [kdOf_int (hk.symm.trans hkd)] at hu
  simp [underlying, hu]

theorem run_under_struct {t : Nat} {fs : List (Nat × Nat)} {x : TI} (h : tget c.tb t = some x) (hk : x.kd = .struct fs) :
    ∃ gs, (∀ w, (underlying t).run c.P w = .ok (.struct gs) w) ∧ (fs = gs.toList.map fun f => (f.offset, c.P.cellsOf f.type)) ∧ ∀ f ∈ gs.toList, ∃ i, c.P.info? f.type = some i := by
  obtain ⟨i, d, _, hu, _, _, _, hkd, _⟩ := hc.info h
  rw [hk] at hkd
  cases d with
  | struct gs =>
    simp only [kdOf] at hkd
    cases hall : gs.toList.all (fun f => (c.P.info? f.type).isSome) with
    | false => simp [hall] at hkd
    | true =>
      simp only [hall, cond_true, Kd.struct.injEq] at hkd
      refine ⟨gs, fun w => by simp [underlying, hu], hkd, fun f hf => ?_⟩
      have := List.all_eq_true.1 hall f hf
      exact Option.isSome_iff_exists.1 this
  | _ => simp [kdOf] at hkd

end

theorem add_none (b o n : Nat) : Addr.add ⟨b, o, none⟩ n = ⟨b, o + n, none⟩ := by
  unfold Addr.add
  split
  · subst_vars; rfl
  · rfl

theorem run_loadCellsFrom (P : Program) (w : World) (b o : Nat) : ∀ (cs : List Value) (i : Nat) (acc : Array Value), (∀ j v, cs[j]? = some v → w.cell? ⟨b, o + (i + j), none⟩ = some v) →
    (loadCellsFrom ⟨b, o, none⟩ i cs.length acc).run P w = .ok (acc ++ cs.toArray) w := by
  intro cs
  induction cs with
  | nil => intro i acc _; simp [loadCellsFrom]
  | cons v r ih =>
    intro i acc h
    have h0 := h 0 v (by simp)
    simp only [Nat.add_zero] at h0
    have hr := ih (i + 1) (acc.push v) (fun j u hu => by
      have := h (j + 1) u (by simpa using hu)
      rw [show i + 1 + j = i + (j + 1) from by omega]; exact this)
    simp only [List.length_cons, loadCellsFrom, Sem.run_bind, add_none]
    rw [run_load, h0]
    simp only [Result.andThen_ok]
    rw [hr]
    congr 1
    apply Array.ext'
    simp

theorem run_loadCells (P : Program) (w : World) (b o : Nat) (cs : List Value) (h : Cells w b o cs) : (loadCells ⟨b, o, none⟩ cs.length).run P w = .ok cs.toArray w := by
  have := run_loadCellsFrom P w b o cs 0 #[] (fun j v hv => by simpa using h j v hv)
  simpa [loadCells] using this

/-- What stands in the variable of type t at ⟨b, o⟩. -/
def Ld (c : Cx) (t : Nat) (w : World) (b o : Nat) (K : Value → Prop) : Prop :=
  match tget c.tb t with
  | some x => bif x.agg then ∃ cs, Cells w b o cs ∧ cs.length = x.size ∧ K (.agg cs.toArray) else ∃ v, w.cell? ⟨b, o, none⟩ = some v ∧ K v
  | none => False

theorem Ld.run {c : Cx} (hc : c.Ok) {t : Nat} {w : World} {b o : Nat} {K : Value → Prop} (h : Ld c t w b o K) : ∃ v, (loadVar t ⟨b, o, none⟩).run c.P w = .ok v w ∧ K v := by
  unfold Ld at h
  cases ht : tget c.tb t with
  | none => simp [ht] at h
  | some x =>
    simp only [ht] at h
    cases hx : x.agg with
    | true =>
      simp only [hx, cond_true] at h
      obtain ⟨cs, hcs, hl, hK⟩ := h
      refine ⟨_, ?_, hK⟩
      simp [loadVar, run_isAgg hc ht, hx, run_sizeOf hc ht, ← hl, run_loadCells c.P w b o cs hcs]
    | false =>
      simp only [hx, cond_false] at h
      obtain ⟨v, hv, hK⟩ := h
      exact ⟨v, by simp [loadVar, run_isAgg hc ht, hx, hv], hK⟩

/-- One cell written. -/
def St1 (w : World) (b o : Nat) (v : Value) (K : World → Prop) : Prop :=
  ∃ l T, Blk w b l T ∧ o < l.length ∧ one v = true ∧ ∀ w', Upd w b (.cells (l.set o v).toArray T) w' → K w'

/-- n cells written. -/
def StN (w : World) (b o n : Nat) (vs : List Value) (K : World → Prop) : Prop :=
  ∃ l T, Blk w b l T ∧ vs.length = n ∧ o + n ≤ l.length ∧ vs.all one = true ∧ ∀ w', Upd w b (.cells (splice l o n vs).toArray T) w' → K w'

def Sto (c : Cx) (t : Nat) (w : World) (b o : Nat) (v : Value) (K : World → Prop) : Prop :=
  match tget c.tb t with
  | some x => bif x.agg then (match v with | .agg cs => StN w b o x.size cs.toList K | _ => False) else (bif Nat.beq x.size 1 then St1 w b o v K else False)
  | none => False

theorem run_store1 (P : Program) (w : World) (b o : Nat) (v : Value) (l : List Value) (T : Nat) (h : Blk w b l T) (ho : o < l.length) (hv : one v = true) :
    ∃ w', (store ⟨b, o, none⟩ v).run P w = .ok () w' ∧ Upd w b (.cells (l.set o v).toArray T) w' := by
  have hcell : w.cell? ⟨b, o, none⟩ = some l[o] := h.cell (List.getElem?_eq_getElem ho)
  have hfr : w.frozen? ⟨b, o, none⟩ = false := by
    have h' := h
    unfold Blk at h'
    simp [World.frozen?, h']
  refine ⟨w.setCell ⟨b, o, none⟩ v, ?_, h.lt, ?_⟩
  · cases v <;> simp [one] at hv <;> simp [store, Sem.run, hcell, hfr]
  · simp only [World.setCell]
    congr 1
    apply Array.ext_getElem?
    intro i
    rw [Array.getElem?_modify]
    by_cases hi : b = i
    · subst hi
      have h' := h
      unfold Blk at h'
      rw [if_pos rfl, h']
      simp [h.lt]
    · rw [if_neg hi, Array.getElem?_setIfInBounds_ne hi]

theorem run_storeCells (P : Program) (b o T : Nat) : ∀ (vs : List Value) (i : Nat) (l : List Value) (w : World), Blk w b l T → o + i + vs.length ≤ l.length → vs.all one = true →
    ∃ w', (storeCells ⟨b, o, none⟩ vs i).run P w = .ok () w' ∧ Upd w b (.cells (splice l (o + i) vs.length vs).toArray T) w' := by
  intro vs
  induction vs with
  | nil =>
    intro i l w h _ _
    refine ⟨w, by simp [storeCells], h.lt, ?_⟩
    have h' := h
    unfold Blk at h'
    have : w.heap.setIfInBounds b (.cells l.toArray T (0, 0)) = w.heap := by
      apply Array.ext_getElem?
      intro j
      by_cases hj : b = j
      · subst hj; rw [h']; simp [h.lt]
      · rw [Array.getElem?_setIfInBounds_ne hj]
    simp [splice, this]
  | cons v r ih =>
    intro i l w h hl hv
    simp only [List.length_cons] at hl
    simp only [List.all_cons, Bool.and_eq_true] at hv
    obtain ⟨w1, hr1, hu1⟩ := run_store1 P w b (o + i) v l T h (by omega) hv.1
    obtain ⟨w2, hr2, hu2⟩ := ih (i + 1) (l.set (o + i) v) w1 hu1.blk (by simp; omega) hv.2
    refine ⟨w2, ?_, h.lt, ?_⟩
    · simp only [storeCells, Sem.run_bind, add_none, hr1, Result.andThen_ok, hr2]
    · rw [hu2.eq, hu1.eq]
      congr 1
      simp only [Array.setIfInBounds_setIfInBounds]
      congr 2
      congr 1
      have e1 : (l.set (o + i) v).take (o + (i + 1)) = l.take (o + i) ++ [v] := by
        rw [← Nat.add_assoc, List.take_succ_eq_append_getElem (by simp; omega)]
        simp [List.take_set_of_le]
      have e2 : (l.set (o + i) v).drop (o + (i + 1) + r.length) = l.drop (o + i + (r.length + 1)) := by
        rw [List.drop_set_of_lt (by omega)]
        congr 1
        omega
      simp only [splice, List.length_cons, e1, e2]
      simp

theorem Sto.run {c : Cx} (hc : c.Ok) {t : Nat} {w : World} {b o : Nat} {v : Value} {K : World → Prop} (h : Sto c t w b o v K) : ∃ w', (storeVar t ⟨b, o, none⟩ v).run c.P w = .ok () w' ∧ K w' := by
  unfold Sto at h
  cases ht : tget c.tb t with
  | none => simp [ht] at h
  | some x =>
    simp only [ht] at h
    cases hx : x.agg with
    | true =>
      simp only [hx, cond_true] at h
      cases v with
      | agg cs =>
        obtain ⟨l, T, hb, hlen, hle, hall, hK⟩ := h
        obtain ⟨w', hr, hu⟩ := run_storeCells c.P b o T cs.toList 0 l w hb (by omega) hall
        refine ⟨w', ?_, hK w' (by rw [hlen] at hu; simpa using hu)⟩
        have hz : cs.size = x.size := by simpa using hlen
        simp [storeVar, run_sizeOf hc ht, Value.cells, hz, hr]
      | _ => exact h.elim
    | false =>
      simp only [hx, cond_false] at h
      cases hs : Nat.beq x.size 1 with
      | false => simp [hs] at h
      | true =>
        simp only [hs, cond_true] at h
        have hs1 : x.size = 1 := Nat.eq_of_beq_eq_true hs
        obtain ⟨l, T, hb, ho, hv, hK⟩ := h
        obtain ⟨w', hr, hu⟩ := run_store1 c.P w b o v l T hb ho hv
        refine ⟨w', ?_, hK w' hu⟩
        have hcells : v.cells = #[v] := by cases v <;> simp [one] at hv <;> rfl
        simp [storeVar, run_sizeOf hc ht, hs1, hcells, storeCells, add_none, hr]

end Go.E
