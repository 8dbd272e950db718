/- The memory: its model, and how it lies in the heap. -/
import Derived.Test.YtlfolinjajjgjaaDoorP6
import Derived.Test.YtlfolinjajjgjaaDoorEJ
namespace Go.Proofs.YtlfolinjajjgjaaDoor
open Go.E

/-! The model -/

structure Ln where
  ws : List Nat
  code : Nat
  pend : List (Nat × Nat)
  mark : Nat

structure Ln.Ok (l : Ln) : Prop where
  ws : Line8 l.ws
  code : l.code < 1024
  pend : ∀ p ∈ l.pend, p.1 < 8 ∧ p.2 < 2 ^ 40
  mark : l.mark ≤ l.pend.length

def zeros8 : List Nat := List.replicate 8 0
theorem zeros8_ok : Line8 zeros8 := ⟨rfl, by decide⟩

def lay (ws : List Nat) (ps : List (Nat × Nat)) : List Nat := ps.foldl (fun w p => w.set p.1 p.2) ws

theorem lay_ok : ∀ {ps : List (Nat × Nat)} {ws : List Nat}, Line8 ws → (∀ p ∈ ps, p.1 < 8 ∧ p.2 < 2 ^ 40) → Line8 (lay ws ps)
  | [], _, h, _ => h
  | p :: r, ws, h, hp => by
    have hp0 := hp p (by simp)
    refine lay_ok (ps := r) (ws := ws.set p.1 p.2) ⟨by simp [h.len], fun x hx => ?_⟩ (fun q hq => hp q (by simp [hq]))
    rcases List.mem_or_eq_of_mem_set hx with hx | rfl
    · exact h.word x hx
    · exact hp0.2

theorem lay_snoc (ws : List Nat) (ps : List (Nat × Nat)) (p : Nat × Nat) : lay ws (ps ++ [p]) = (lay ws ps).set p.1 p.2 := by simp [lay]

/-- What a line shows behind its first k pending stores; none: it is rotten. -/
def Ln.shows (l : Ln) (k : Nat) : Option (List Nat) := (fix l.ws l.code).map fun r => lay r.1 (l.pend.take k)

theorem Ln.Ok.shows {l : Ln} (h : l.Ok) {k : Nat} {ws : List Nat} (hs : l.shows k = some ws) : Line8 ws := by
  unfold Ln.shows at hs
  cases hf : fix l.ws l.code with
  | none => rw [hf] at hs; simp at hs
  | some r =>
    rw [hf] at hs
    simp only [Option.map_some, Option.some.injEq] at hs
    subst hs
    exact lay_ok (fix_line (vs := r.1) (c := r.2) h.ws h.code hf).1 fun p hp => h.pend p (List.mem_of_mem_take hp)

def Ln.shown (l : Ln) (k : Nat) : List Nat := (l.shows k).getD zeros8

theorem Ln.Ok.shown {l : Ln} (h : l.Ok) (k : Nat) : Line8 (l.shown k) := by
  unfold Ln.shown
  cases hs : l.shows k with
  | none => exact zeros8_ok
  | some ws => exact h.shows hs

def Ln.settle (l : Ln) (k : Nat) : Ln := if k = 0 then l else ⟨l.shown k, enc (l.shown k), l.pend.drop k, l.mark - k⟩

theorem Ln.Ok.settle {l : Ln} (h : l.Ok) (k : Nat) : (l.settle k).Ok := by
  unfold Ln.settle
  split
  · exact h
  · exact ⟨h.shown k, enc_lt _, fun p hp => h.pend p (List.mem_of_mem_drop hp), by have := h.mark; simp; omega⟩

/-- The memory. nev: how many events. -/
structure Mm where
  l : List Ln
  span : Nat
  nev : Nat

/-! Rows of equal length -/

theorem fm_get {α β : Type} {f : α → List β} {k : Nat} : ∀ {l : List α} {i : Nat} {a : α} {j : Nat} {v : β}, (∀ a ∈ l, (f a).length = k) → l[i]? = some a → (f a)[j]? = some v → (l.flatMap f)[i * k + j]? = some v
  | [], i, a, j, v, _, h, _ => by simp at h
  | x :: r, 0, a, j, v, hf, h, hv => by
    simp only [List.getElem?_cons_zero, Option.some.injEq] at h
    subst h
    rw [List.flatMap_cons, List.getElem?_append_left (by have := (List.getElem?_eq_some_iff.1 hv).1; omega)]
    simpa using hv
  | x :: r, i + 1, a, j, v, hf, h, hv => by
    have hx := hf x (by simp)
    rw [List.flatMap_cons, List.getElem?_append_right (by rw [hx, Nat.add_mul]; omega)]
    have := fm_get (l := r) (i := i) (fun a ha => hf a (by simp [ha])) (by simpa using h) hv
    rw [hx, show (i + 1) * k + j - k = i * k + j by rw [Nat.add_mul]; omega]
    exact this

theorem fm_len {α β : Type} {f : α → List β} {k : Nat} : ∀ {l : List α}, (∀ a ∈ l, (f a).length = k) → (l.flatMap f).length = l.length * k
  | [], _ => by simp
  | x :: r, hf => by
    rw [List.flatMap_cons, List.length_append, hf x (by simp), fm_len (fun a ha => hf a (by simp [ha])), List.length_cons, Nat.add_mul]
    omega

theorem fm_splice {α β : Type} {f : α → List β} {k o n : Nat} {vs : List β} (sp : List β → Nat → Nat → List β → List β) (hsp : sp = fun l o n vs => l.take o ++ (vs ++ l.drop (o + n))) :
    ∀ {l : List α} {i : Nat} {a a' : α}, (∀ a ∈ l, (f a).length = k) → l[i]? = some a → o + n ≤ k → f a' = sp (f a) o n vs → sp (l.flatMap f) (i * k + o) n vs = (l.set i a').flatMap f := by
  subst hsp
  intro l
  induction l with
  | nil => intro i a a' _ h; simp at h
  | cons x r ih =>
    intro i a a' hf h ho ha
    have hx := hf x (by simp)
    cases i with
    | zero =>
      simp only [List.getElem?_cons_zero, Option.some.injEq] at h
      subst h
      simp only [Nat.zero_mul, Nat.zero_add, List.flatMap_cons, List.set_cons_zero, ha]
      rw [List.take_append_of_le_length (by omega), List.drop_append_of_le_length (by omega)]
      simp
    | succ i =>
      have := ih (i := i) (a := a) (a' := a') (fun a ha => hf a (by simp [ha])) (by simpa using h) ho ha
      simp only [List.set_cons_succ, List.flatMap_cons, ← this]
      have e1 : (i + 1) * k + o = (f x).length + (i * k + o) := by rw [hx, Nat.add_mul]; omega
      have e2 : (i + 1) * k + o + n = (f x).length + (i * k + o + n) := by omega
      rw [e2, e1, List.take_length_add_append, List.drop_length_add_append]
      simp

/-! The heap -/

def pcells (ps : List (Nat × Nat)) : List Value := ps.flatMap fun p => [.int .i64 (p.1 : Nat), .int .i64 (p.2 : Nat)]

theorem pcells_len (ps : List (Nat × Nat)) : (pcells ps).length = ps.length * 2 := fm_len (fun _ _ => rfl)
theorem pcells_one (ps : List (Nat × Nat)) : (pcells ps).all E.one = true := by
  rw [List.all_eq_true]
  intro x hx
  simp only [pcells, List.mem_flatMap, List.mem_cons, List.not_mem_nil, or_false] at hx
  obtain ⟨p, _, rfl | rfl⟩ := hx <;> rfl

def lcells (r : Ln × Value) : List Value := wcells r.1.ws ++ [.int .i64 (r.1.code : Nat), r.2, .int .i64 (r.1.mark : Nat)]

theorem lcells_len {r : Ln × Value} (h : r.1.Ok) : (lcells r).length = 11 := by simp [lcells, wcells_len h.ws]

theorem get_tail {l t : List Value} (n : Nat) (h : l.length = n) (j : Nat) : (l ++ t)[n + j]? = t[j]? := by
  rw [← h, List.getElem?_append_right (by omega)]; simp

theorem lcells_code {r : Ln × Value} (h : r.1.Ok) : (lcells r)[8]? = some (.int .i64 (r.1.code : Nat)) := get_tail 8 (wcells_len h.ws) 0
theorem lcells_pend {r : Ln × Value} (h : r.1.Ok) : (lcells r)[9]? = some r.2 := get_tail 8 (wcells_len h.ws) 1
theorem lcells_mark {r : Ln × Value} (h : r.1.Ok) : (lcells r)[10]? = some (.int .i64 (r.1.mark : Nat)) := get_tail 8 (wcells_len h.ws) 2

def busyM (rows : List (Ln × Value)) : Int → Option Value
  | .ofNat n => match rows[n]? with
    | some r => if r.1.pend = [] then none else some (.bool true)
    | none => none
  | _ => none

def foot (p bl bm : Nat) (rows : List (Ln × Value)) (evv : Value) : List Nat := p :: bl :: bm :: (evv.ownBlock.toList ++ rows.flatMap fun r => r.2.ownBlock.toList)

/-- The memory lies at block p; of its map of the busy lines nothing is said. -/
structure MemX (w : World) (p bl bm : Nat) (rows : List (Ln × Value)) (evv : Value) (span nev : Nat) : Prop where
  head : Blk w p [.slice (some ⟨bl, 0, none⟩) rows.length rows.length, .map (some bm), .int .i64 (span : Nat), evv] 73
  lines : Blk w bl (rows.flatMap lcells) 69
  pend : ∀ r ∈ rows, Row w 89 2 r.2 r.1.pend.length (pcells r.1.pend)
  evs : ∃ xs, Row w 142 12 evv nev xs
  ok : ∀ r ∈ rows, r.1.Ok
  nodup : (foot p bl bm rows evv).Nodup
  ge : ∀ b ∈ foot p bl bm rows evv, 3 ≤ b
  small : rows.length ≤ 4096
  bmlt : bm < w.heap.size

/-- The memory M lies at block p; F: its blocks. -/
def Mem (w : World) (p : Nat) (M : Mm) (F : List Nat) : Prop := ∃ bl bm rows evv, MemX w p bl bm rows evv M.span M.nev ∧ IM w bm (busyM rows) ∧ M.l = rows.map (·.1) ∧ F = foot p bl bm rows evv

/-- From w to w': the blocks of F may have changed; F' are blocks of F, or new ones. -/
structure Step (w w' : World) (F F' : List Nat) : Prop where
  tr : Tr F w w'
  sub : ∀ b ∈ F', b ∈ F ∨ w.heap.size ≤ b

theorem Step.refl (w : World) (F : List Nat) : Step w w F F := ⟨Tr.refl _ _, fun _ h => .inl h⟩
theorem Step.trans {w w1 w2 : World} {F F1 F2 : List Nat} (h : Step w w1 F F1) (h' : Step w1 w2 F1 F2) : Step w w2 F F2 :=
  ⟨h.tr.trans h'.tr (fun _ h => h) (fun b hb hlt => (h.sub b hb).resolve_right (by omega)), fun b hb => by
    rcases h'.sub b hb with hb | hb
    · exact h.sub b hb
    · exact .inr (Nat.le_trans h.tr.size hb)⟩
theorem Step.ext {w w1 w2 : World} {F F1 : List Nat} (h : Step w w1 F F1) (t : Tr [] w1 w2) : Step w w2 F F1 :=
  ⟨h.tr.trans t (fun _ h => h) (fun _ h _ => by cases h), h.sub⟩
theorem Step.of_ext {w w1 w2 : World} {F F1 : List Nat} (t : Tr [] w w1) (h : Step w1 w2 F F1) : Step w w2 F F1 :=
  ⟨t.trans h.tr (fun _ h => by cases h) (fun _ h _ => h), fun b hb => (h.sub b hb).imp_right (Nat.le_trans t.size)⟩

theorem Row.lt {w : World} {e size n : Nat} {v : Value} {xs : List Value} (h : Row w e size v n xs) {b : Nat} (hb : v.ownBlock = some b) : b < w.heap.size := by
  obtain ⟨_, h2 | ⟨g, cap, cur, rfl, _, h4, _⟩⟩ := h
  · rw [h2.1] at hb; simp [Value.ownBlock] at hb
  · simp only [Value.ownBlock, Option.some.injEq] at hb
    subst hb
    exact lt_of_get h4

namespace MemX
variable {w : World} {p bl bm : Nat} {rows : List (Ln × Value)} {evv : Value} {span nev : Nat}

theorem lens (h : MemX w p bl bm rows evv span nev) : ∀ r ∈ rows, (lcells r).length = 11 := fun r hr => lcells_len (h.ok r hr)

theorem tr (h : MemX w p bl bm rows evv span nev) {S : List Nat} {w' : World} (t : Tr S w w') (hS : ∀ b ∈ S, b ∉ foot p bl bm rows evv) : MemX w' p bl bm rows evv span nev := by
  have hin : ∀ b ∈ foot p bl bm rows evv, b ∉ S := fun b hb hs => hS b hs hb
  obtain ⟨xs, hxs⟩ := h.evs
  refine ⟨h.head.tr t (hin _ (by simp [foot])), h.lines.tr t (hin _ (by simp [foot])), fun r hr => Row.tr (h.pend r hr) t fun b hb => hin _ ?_, ⟨xs, Row.tr hxs t fun b hb => hin _ ?_⟩, h.ok, h.nodup, h.ge, h.small, Nat.lt_of_lt_of_le h.bmlt t.size⟩
  · simp only [foot, List.mem_cons, List.mem_append, List.mem_flatMap]
    exact .inr (.inr (.inr (.inr ⟨r, hr, by simp [hb]⟩)))
  · simp [foot, hb]

theorem ext (h : MemX w p bl bm rows evv span nev) {w' : World} (t : Tr [] w w') : MemX w' p bl bm rows evv span nev := h.tr t (by simp)

theorem foot_lt (h : MemX w p bl bm rows evv span nev) : ∀ b ∈ foot p bl bm rows evv, b < w.heap.size := by
  intro b hb
  simp only [foot, List.mem_cons, List.mem_append, List.mem_flatMap, Option.mem_toList] at hb
  rcases hb with rfl | rfl | rfl | hb | ⟨r, hr, hb⟩
  · exact h.head.lt
  · exact h.lines.lt
  · exact h.bmlt
  · obtain ⟨xs, hxs⟩ := h.evs
    exact Row.lt hxs hb
  · exact Row.lt (h.pend r hr) hb

theorem cell (h : MemX w p bl bm rows evv span nev) {i : Nat} {r : Ln × Value} (hr : rows[i]? = some r) {j : Nat} {v : Value} (hv : (lcells r)[j]? = some v) : w.cell? ⟨bl, i * 11 + j, none⟩ = some v :=
  h.lines.cell (fm_get h.lens hr hv)

/-- The words of a line. -/
theorem words (h : MemX w p bl bm rows evv span nev) {i : Nat} {r : Ln × Value} (hr : rows[i]? = some r) : Cells w bl (0 + i * 11 + 0 + 0) (wcells r.1.ws) := fun j v hv => by
  rw [show 0 + i * 11 + 0 + 0 + j = i * 11 + j by omega]
  refine h.cell hr ?_
  unfold lcells
  rw [List.getElem?_append_left (List.getElem?_eq_some_iff.1 hv).1]
  exact hv

/-- Words and code. -/
theorem line (h : MemX w p bl bm rows evv span nev) {i : Nat} {r : Ln × Value} (hr : rows[i]? = some r) : Cells w bl (0 + i * 11 + 0) (wcells r.1.ws ++ [.int .i64 (r.1.code : Nat)]) := fun j v hv => by
  rw [show 0 + i * 11 + 0 + j = i * 11 + j by omega]
  refine h.cell hr ?_
  have : lcells r = (wcells r.1.ws ++ [.int .i64 (r.1.code : Nat)]) ++ [r.2, .int .i64 (r.1.mark : Nat)] := by simp [lcells]
  rw [this, List.getElem?_append_left (List.getElem?_eq_some_iff.1 hv).1]
  exact hv

theorem code (h : MemX w p bl bm rows evv span nev) {i : Nat} {r : Ln × Value} (hr : rows[i]? = some r) : w.cell? ⟨bl, 0 + i * 11 + 0 + 8, none⟩ = some (.int .i64 (r.1.code : Nat)) := by
  rw [show 0 + i * 11 + 0 + 8 = i * 11 + 8 by omega]
  exact h.cell hr (lcells_code (h.ok r (List.mem_of_getElem? hr)))

theorem pcell (h : MemX w p bl bm rows evv span nev) {i : Nat} {r : Ln × Value} (hr : rows[i]? = some r) : w.cell? ⟨bl, 0 + i * 11 + 9, none⟩ = some r.2 := by
  rw [show 0 + i * 11 + 9 = i * 11 + 9 by omega]
  exact h.cell hr (lcells_pend (h.ok r (List.mem_of_getElem? hr)))

theorem mark (h : MemX w p bl bm rows evv span nev) {i : Nat} {r : Ln × Value} (hr : rows[i]? = some r) : w.cell? ⟨bl, 0 + i * 11 + 10, none⟩ = some (.int .i64 (r.1.mark : Nat)) := by
  rw [show 0 + i * 11 + 10 = i * 11 + 10 by omega]
  exact h.cell hr (lcells_mark (h.ok r (List.mem_of_getElem? hr)))

end MemX

end Go.Proofs.YtlfolinjajjgjaaDoor
