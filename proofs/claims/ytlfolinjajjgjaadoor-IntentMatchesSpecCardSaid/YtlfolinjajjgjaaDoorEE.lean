/- The calculus E, part E: an operation as a whole. -/
import Derived.Test.YtlfolinjajjgjaaDoorED
import Derived.IntWalk
namespace Go.E

section
variable {c : Cx} (hc : c.Ok)
include hc

omit hc in
theorem wrap_nat (n : Nat) (h : n ≤ 140737488355328) : IntKind.i64.wrap (n : Int) = (n : Int) :=
  IntWalk.i64_in _ (by omega)

theorem makeSlice_run {t : Nat} {l m : Value} {w : World} {K : Value → World → Prop} (h : makeSliceK c t l m w K) : RunV c.P (Instr.makeSlice t l m) w K := by
  unfold makeSliceK at h
  split at h
  · rename_i x q i q' j ht
    split at h
    · rename_i e hk
      split at h
      · rename_i y hy
        obtain ⟨n, k, rfl, rfl, hnk, ⟨hkb, hkm, hy0⟩, hK⟩ := h
        obtain ⟨z, hz, hzl, hzz⟩ := run_zero hc hy
        obtain ⟨inf, hinf, hby⟩ := run_bytes hc hy w
        have hzc : z.cells = y.zero.toArray := by rw [← hzl]
        refine ⟨_, { w with heap := w.heap.push (.cells (List.replicate k y.zero).flatten.toArray e) }, ?_, hK _ _ ⟨rfl, rfl⟩⟩
        have e1 := wrap_nat n (by omega)
        have e2 := wrap_nat k hkm
        have h1 : ¬ ((k : Int) < 0) := by omega
        have h2 : ¬ ((y.bytes : Int) * (k : Int) > 2 ^ 48) := by
          have : y.bytes * k ≤ 140737488355328 := by rw [Nat.mul_comm]; exact hkb
          have h3 : ((y.bytes * k : Nat) : Int) ≤ 140737488355328 := by omega
          rw [Int.natCast_mul] at h3
          generalize (y.bytes : Int) * (k : Int) = p at h3 ⊢
          omega
        have h4 : ¬ ((n : Int) < 0) := by omega
        have h5 : ¬ ((n : Int) > (k : Int)) := by omega
        simp only [Instr.makeSlice, Sem.run_bind, run_under_slice hc ht hk, Result.andThen_ok, asInt, asIntOf, pure_bind, hinf, hby, e1, e2]
        have hcond : ((decide ((k : Int) < 0) || decide ((y.bytes : Int) * (k : Int) > 2 ^ 48)) || decide ((n : Int) < 0) || decide ((n : Int) > (k : Int))) = false := by
          rw [decide_eq_false h1, decide_eq_false h2, decide_eq_false h4, decide_eq_false h5]; rfl
        rw [hcond]
        rw [if_neg (by simp)]
        have hy1 : y.size ≠ 0 := fun e => by rw [e] at hy0; simp at hy0
        have hzne : y.zero ≠ [] := fun e => by rw [e] at hzz; simp at hzz; omega
        have hfl := flat_mod y.zero hzne k
        rw [hzz] at hfl
        have hask : ∀ m, (askRoom m).run c.P w = .ok () w := fun m => by unfold askRoom; split <;> simp [mark, Sem.run]
        simp only [Sem.run_bind, hask, Result.andThen_ok, run_sizeOf hc hy, Int.toNat_natCast]
        by_cases hk0 : k * y.size = 0
        · have hk00 : k = 0 := by rcases Nat.mul_eq_zero.1 hk0 with h | h; exact h; exact absurd h hy1
          subst hk00
          rw [if_pos hk0, hk0]
          have e0 : ∀ g : Nat → Value, (Array.range 0).map g = #[] := fun _ => by simp
          simp only [e0]
          simp [newRow, newObj, Sem.run]
        · rw [if_neg hk0]
          simp only [Sem.run_bind, hz, Result.andThen_ok, hzc, hfl]
          simp [newRow, newObj, Sem.run]
      · exact h.elim
    · exact h.elim
  · exact h.elim

theorem builtin_run {b : Builtin} {ats : Array TypeId} {ty : TypeId} {cs : Array Bool} {vs : List Value} {w : World} {K : Value → World → Prop} (h : builtinK c b ats ty vs w K) :
    ∃ v w', (builtin b ats ty cs vs.toArray).run c.P w = .ok (.value v) w' ∧ K v w' := by
  have gen : ∀ (s : Array TypeId → TypeId → Array Value → Sem Value), builtinS b = some s → RunV c.P (s ats ty vs.toArray) w K → ∃ v w', (builtin b ats ty cs vs.toArray).run c.P w = .ok (.value v) w' ∧ K v w' := by
    intro s hs hr
    obtain ⟨v, w', hr, hK⟩ := hr
    refine ⟨v, w', ?_, hK⟩
    cases b <;> simp [builtinS] at hs <;> subst hs <;> simp [builtin, hr]
  unfold builtinK at h
  split at h
  · rename_i a n cp
    cases hb : (isSlice (tget c.tb (ats.getD 0 0)) && Nat.beq ats.size 1) with
    | false => rw [hb] at h; exact h.elim
    | true =>
      rw [hb] at h
      simp only [Bool.and_eq_true] at hb
      have h : K (.int .i64 n) w := h
      obtain ⟨h1, h2⟩ := hb
      have hsz : ats.size = 1 := Nat.eq_of_beq_eq_true h2
      refine gen Builtin.len_ rfl ⟨_, w, ?_, h⟩
      have h0 : ats[0]? = some (ats.getD 0 0) := by
        simp [hsz]
      generalize ats.getD 0 0 = t0 at h0 h1
      cases ht : tget c.tb t0 with
      | none => rw [ht] at h1; cases h1
      | some x =>
        rw [ht] at h1
        simp only [isSlice] at h1
        cases hk : x.kd with
        | slice e => simp [Builtin.len_, h0, run_under_slice hc ht hk, goInt]
        | _ => rw [hk] at h1; cases h1
  · split at h
    · rename_i s hs
      exact gen s hs h
    · exact h.elim

/-- What yields a value by itself. -/
theorem wpV_run {o : Oper} {N : Nat} {e : Env} {a : Act} {w : World} {K : Value → World → Prop} (hag : Ag N e a) (h : wpV c o e w K) :
    ∃ v w', (execOp a.eval o).run c.P w = .ok (.value v) w' ∧ K v w' := by
  have fin : ∀ {s : Sem Value}, execOp a.eval o = (do pure (.value (← s))) → RunV c.P s w K → ∃ v w', (execOp a.eval o).run c.P w = .ok (.value v) w' ∧ K v w' := by
    intro s he hr
    obtain ⟨v, w', hr, hK⟩ := hr
    exact ⟨v, w', by rw [he]; simp [hr], hK⟩
  unfold wpV at h
  cases ho : o.op with
  | move x =>
    simp only [ho] at h
    split at h
    · rename_i v hv
      exact ⟨v, w, by simp [execOp, ho, hag.ev hv], h⟩
    · exact h.elim
  | assign x =>
    simp only [ho] at h
    split at h
    · rename_i v hv
      exact ⟨v, w, by simp [execOp, ho, hag.ev hv], h⟩
    · exact h.elim
  | pick cnd x y =>
    simp only [ho] at h
    split at h
    · rename_i hcnd
      split at h
      · rename_i v u hv hu
        exact ⟨v, w, by simp [execOp, ho, hag.ev hcnd, asBool, hag.ev hv], h⟩
      · exact h.elim
    · rename_i hcnd
      split at h
      · rename_i v u hv hu
        exact ⟨u, w, by simp [execOp, ho, hag.ev hcnd, asBool, hag.ev hu], h⟩
      · exact h.elim
    · exact h.elim
  | alloc t =>
    simp only [ho] at h
    split at h
    · rename_i x hx
      exact fin (by simp [execOp, ho]) (run_alloc hc hx h)
    · exact h.elim
  | box t x =>
    simp only [ho] at h
    split at h
    · rename_i v hv
      exact fin (by simp only [execOp, ho, hag.ev hv]) (run_box h)
    · exact h.elim
  | build t ps =>
    simp only [ho] at h
    split at h
    · rename_i vs hvs
      refine fin ?_ (build_run hc h).run
      have := hag.evParts hvs
      simp only [execOp, ho]
      rw [← this]
      congr 2
      simp [Array.toArray_toList, ← List.map_toArray]
    · exact h.elim
  | buildSlice t n ps =>
    simp only [ho] at h
    split at h
    · rename_i vs hvs
      refine fin ?_ (buildSlice_run hc h)
      have := hag.evParts hvs
      simp only [execOp, ho]
      rw [← this]
      congr 2
      simp [Array.toArray_toList, ← List.map_toArray]
    · exact h.elim
  | load t x =>
    simp only [ho] at h
    split at h
    · rename_i b of hx
      obtain ⟨v, hr, hK⟩ := Ld.run hc h
      exact ⟨v, w, by simp [execOp, ho, hag.ev hx, Instr.loadAt, Instr.sureAddr, hr], hK⟩
    · exact h.elim
  | nilCheck x =>
    simp only [ho] at h
    split at h
    · rename_i a' hx
      exact ⟨_, w, by simp [execOp, ho, hag.ev hx], h⟩
    · rename_i f p q hx
      exact ⟨_, w, by simp [execOp, ho, hag.ev hx], h⟩
    · exact h.elim
  | binOp op t x y ty =>
    simp only [ho] at h
    split at h
    · rename_i va vb hx hy
      refine fin ?_ (binK_run h)
      simp only [execOp, ho, hag.ev hx, hag.ev hy]
    · exact h.elim
  | unOp op t x =>
    simp only [ho] at h
    split at h
    · rename_i v hx
      exact fin (by simp only [execOp, ho, hag.ev hx]) (un_run h)
    · exact h.elim
  | convert s d x =>
    simp only [ho] at h
    split at h
    · rename_i v hx
      exact fin (by simp only [execOp, ho, hag.ev hx]) (conv_run hc h)
    · exact h.elim
  | makeFunc fn p q =>
    simp only [ho] at h
    split at h
    · rename_i va vb hx hy
      refine ⟨_, w, ?_, h⟩
      have h1 := hag.evs hx
      have h2 := hag.evs hy
      simp only [execOp, ho, Instr.makeFunc, ← h1, ← h2]
      simp [← List.map_toArray]
    · exact h.elim
  | makeMap t r =>
    cases r with
    | none =>
      simp only [ho] at h
      refine ⟨_, { w with heap := w.heap.push (.map #[] 0) }, ?_, h _ _ ⟨rfl, rfl⟩⟩
      simp [execOp, ho, Instr.makeMap, newObj, Sem.run]
    | some r => simp only [ho] at h
  | makeSlice t l m =>
    simp only [ho] at h
    split at h
    · rename_i va vb hx hy
      exact fin (by simp only [execOp, ho, hag.ev hx, hag.ev hy]) (makeSlice_run hc h)
    · exact h.elim
  | slice t x lo hi mx =>
    cases mx with
    | some m => simp only [ho] at h
    | none =>
      simp only [ho] at h
      split at h
      · rename_i v hx h1 h2
        simp only [Option.map_eq_none_iff] at h1 h2
        exact fin (by simp only [execOp, ho, hag.ev hx, h1, h2, Option.map_none]) (slice_run hc h).run
      · rename_i v l hx h1 h2
        simp only [Option.map_eq_none_iff, Option.map_eq_some_iff] at h1 h2
        obtain ⟨l', rfl, h1⟩ := h1
        exact fin (by simp only [execOp, ho, hag.ev hx, h2, Option.map_none, Option.map_some, hag.ev h1]) (slice_run hc h).run
      · rename_i v l hx h1 h2
        simp only [Option.map_eq_none_iff, Option.map_eq_some_iff] at h1 h2
        obtain ⟨l', rfl, h2⟩ := h2
        exact fin (by simp only [execOp, ho, hag.ev hx, h1, Option.map_none, Option.map_some, hag.ev h2]) (slice_run hc h).run
      · rename_i v l u hx h1 h2
        simp only [Option.map_eq_some_iff] at h1 h2
        obtain ⟨l', rfl, h1⟩ := h1
        obtain ⟨u', rfl, h2⟩ := h2
        exact fin (by simp only [execOp, ho, hag.ev hx, Option.map_none, Option.map_some, hag.ev h1, hag.ev h2]) (slice_run hc h).run
      · exact h.elim
  | fieldAddr s x f =>
    simp only [ho] at h
    split at h
    · rename_i v hx
      exact fin (by simp only [execOp, ho, hag.ev hx]) (fieldAddr_run hc h).run
    · exact h.elim
  | field s x f =>
    simp only [ho] at h
    split at h
    · rename_i v hx
      exact fin (by simp only [execOp, ho, hag.ev hx]) h
    · exact h.elim
  | indexAddr t x i =>
    simp only [ho] at h
    split at h
    · rename_i v j hx hi
      exact fin (by simp only [execOp, ho, hag.ev hx, hag.ev hi]) (indexAddr_run hc h).run
    · exact h.elim
  | index t x i =>
    simp only [ho] at h
    split at h
    · rename_i v j hx hi
      exact fin (by simp only [execOp, ho, hag.ev hx, hag.ev hi]) (index_run hc h).run
    · exact h.elim
  | lookup t x i ok =>
    simp only [ho] at h
    split at h
    · rename_i v j hx hi
      exact fin (by simp only [execOp, ho, hag.ev hx, hag.ev hi]) h
    · exact h.elim
  | range t x =>
    simp only [ho] at h
    split at h
    · rename_i v hx
      exact fin (by simp only [execOp, ho, hag.ev hx]) h
    · exact h.elim
  | next it s =>
    simp only [ho] at h
    split at h
    · rename_i v hx
      exact fin (by simp only [execOp, ho, hag.ev hx]) h
    · exact h.elim
  | entry it =>
    simp only [ho] at h
    split at h
    · rename_i v hx
      exact fin (by simp only [execOp, ho, hag.ev hx]) h
    · exact h.elim
  | extract x i =>
    simp only [ho] at h
    split at h
    · rename_i vs hx
      split at h
      · rename_i v hv
        refine ⟨v, w, ?_, h⟩
        have hv' : vs[i]? = some v := by rw [← Array.getElem?_toList]; exact hv
        simp [execOp, ho, hag.ev hx, Instr.extract, hv']
      · exact h.elim
    · exact h.elim
  | call cl =>
    simp only [ho] at h
    split at h
    · rename_i b vs hcal hvs
      obtain ⟨v, w', hr, hK⟩ := builtin_run hc (cs := cl.args.map fun | .const _ => true | _ => false) h
      refine ⟨v, w', ?_, hK⟩
      have h1 := hag.evs hvs
      have h2 : cl.args.map a.eval = vs.toArray := by rw [← h1]; simp [← List.map_toArray]
      simp only [execOp, ho, resolve, hcal, pure_bind, invoke, h2]
      exact hr
    · exact h.elim
  | _ => simp only [ho] at h

end

/-! An operation as a whole -/

abbrev Post := Env → List Deferred → World → Prop

/-- The call returns, and so it goes on. -/
structure CallP (P : Program) (f : Nat) (args : Array Value) (w : World) (K : Value → World → Prop) : Prop where
  run : Calls P f args w (Ret K)

theorem Ret.imp {P : Program} {f : Nat} {args : Array Value} {w : World} {Φ K : Value → World → Prop} (h : Calls P f args w (Ret Φ)) (k : ∀ v w', Φ v w' → K v w') : CallP P f args w K :=
  ⟨h.mono fun _ _ ⟨v, he, hv⟩ => ⟨v, he, k v _ hv⟩⟩

/-- A call of a Go function. -/
def callG (c : Cx) (f : Nat) (args : List Value) (w : World) (K : Value → World → Prop) : Prop :=
  bif Nat.ble c.lo f && Nat.blt f c.hi then CallP c.P f args.toArray w K else False

/-- A call of yield. -/
structure CallYP (c : Cx) (l : Nat) (args : List Value) (w : World) (K : Value → World → Prop) : Prop where
  run : ∃ lp, w.heap[l]? = some (.loop lp) ∧ args.length = lp.params.size ∧
    RoundIn Fence.wide 0 c.P l lp.fn ((lp.params.zip args.toArray).foldl (fun tmps (t, a) => tmps.setIfInBounds t a) lp.tmps) lp.assign lp.body w (Ret K)

theorem CallYP.imp {c : Cx} {l : Nat} {args : List Value} {w : World} {Φ K : Value → World → Prop} (h : CallYP c l args w Φ) (k : ∀ v w', Φ v w' → K v w') : CallYP c l args w K :=
  let ⟨lp, h1, h2, h3⟩ := h.run
  ⟨lp, h1, h2, h3.mono fun _ _ ⟨v, he, hv⟩ => ⟨v, he, k v _ hv⟩⟩

def callK (c : Cx) (cl : Call) (e : Env) (w : World) (K : Value → World → Prop) : Prop :=
  match cl.callee with
  | .value f => match ev e f, evs e cl.args.toList with
    | some (.func (.func g) first cap), some vs => callG c g (first.toList ++ (vs ++ cap.toList)) w K
    | some (.func (.yield l) first _), some vs => CallYP c l (first.toList ++ vs) w K
    | _, _ => False
  | _ => False

def isGoCall (o : Oper) : Bool :=
  match o.op with
  | .call cl => match cl.callee with | .builtin _ => false | _ => true
  | _ => false

/-- What one operation does, its guard apart. 'plain': the frame is no round's. -/
def wpO (c : Cx) (plain : Bool) (N : Nat) (o : Oper) (e : Env) (ds : List Deferred) (w : World) (K : Post) : Prop :=
  match o.op with
  | .store t a x => match ev e a, ev e x with
    | some (.pointer (some ⟨b, of, none⟩)), some v => Sto c t w b of v (fun w' => put N e o.dst undef fun e' => K e' ds w')
    | _, _ => False
  | .mapUpdate t m k x | .insert t m k x => match ev e m, ev e k, ev e x with
    | some vm, some vk, some vx => RunU c.P (Instr.mapUpdate t vm vk vx) w (fun w' => put N e o.dst undef fun e' => K e' ds w')
    | _, _, _ => False
  | .defer cl => bif plain then (match cl.callee with
    | .value f => match ev e f, evs e cl.args.toList with
      | some (.func fn first cap), some vs => put N e o.dst undef fun e' => K e' ({ target := .fn fn cap, args := (first.toList ++ vs).toArray } :: ds) w
      | _, _ => False
    | _ => False) else False
  | .call cl => match cl.callee with
    | .builtin _ => wpV c o e w (fun v w' => put N e o.dst v fun e' => K e' ds w')
    | _ => callK c cl e w (fun v w' => put N e o.dst v fun e' => K e' ds w')
  | _ => wpV c o e w (fun v w' => put N e o.dst v fun e' => K e' ds w')

def Wd (r : Option Nat) : Fence := { Fence.wide with round := r }

def Lift (N : Nat) (K : Post) (a : Act) (w : World) : Prop := ∃ e ds, Ag N e a ∧ a.defers = ds ∧ K e ds w

theorem about_wide (r : Option Nat) : ∀ {p : Option FuncId}, ∀ f, p = some f → (Wd r).fn f := fun _ _ => trivial

theorem callsWd {r : Option Nat} {n : Nat} {P : Program} {f : FuncId} {args : Array Value} {w : World} {R : Ending → World → Prop} (h : Calls P f args w R) : CallsIn (Wd r) n P f args w R :=
  (callsIn_wide (n := n)).2 h

theorem roundWd {r : Option Nat} {n m l : Nat} {P : Program} {f : FuncId} {tmps : Array Value} {as bd : Code} {w : World} {R : Ending → World → Prop} (h : RoundIn Fence.wide m P l f tmps as bd w R) :
    RoundIn (Wd r) n P l f tmps as bd w R := by
  refine ⟨trivial, fun c cs _ => ?_⟩
  exact h.2 c cs (room_wide _)

theorem Lift.put {N : Nat} {e : Env} {a : Act} {ds : List Deferred} {w : World} {K : Post} {dst : Option Nat} {v : Value} (hag : Ag N e a) (hd : a.defers = ds) (h : E.put N e dst v fun e' => K e' ds w) :
    Lift N K (a.put dst v) w := by
  obtain ⟨e', hag', hK⟩ := hag.put h
  exact ⟨e', ds, hag', by cases dst <;> simpa [Act.put] using hd, hK⟩

theorem wpO_run {c : Cx} (hc : c.Ok) {r : Option Nat} {n N : Nat} {o : Oper} {e : Env} {a : Act} {ds : List Deferred} {w : World} {K : Post} {Q : Exit → Act → World → Prop}
    (hag : Ag N e a) (hd : a.defers = ds) (h : wpO c r.isNone N o e ds w K) : o.wpIn (Wd r) n c.P a w (Lift N K) Q := by
  refine ⟨about_wide r, ?_⟩
  have value : ∀ {v : Value} {w' : World}, (∀ cl, o.op ≠ .defer cl) → (execOp a.eval o).run c.P w = .ok (.value v) w' → (E.put N e o.dst v fun e' => K e' ds w') →
      o.uponIn (Wd r) n c.P a (Lift N K) Q ((o.semAt (Wd r).round a.eval).run c.P w) := by
    intro v w' hnd hr hK
    rw [Oper.semAt_eq _ _ _ hnd, hr, Oper.uponIn_value]
    exact Lift.put hag hd hK
  have skip : ∀ {w' : World}, (∀ cl, o.op ≠ .defer cl) → (execOp a.eval o).run c.P w = .ok .skip w' → (E.put N e o.dst undef fun e' => K e' ds w') →
      o.uponIn (Wd r) n c.P a (Lift N K) Q ((o.semAt (Wd r).round a.eval).run c.P w) := by
    intro w' hnd hr hK
    rw [Oper.semAt_eq _ _ _ hnd, hr, Oper.uponIn_skip]
    exact Lift.put hag hd hK
  have viaV : (∀ cl, o.op ≠ .defer cl) → wpV c o e w (fun v w' => E.put N e o.dst v fun e' => K e' ds w') → o.uponIn (Wd r) n c.P a (Lift N K) Q ((o.semAt (Wd r).round a.eval).run c.P w) := by
    intro hnd hv
    obtain ⟨v, w', hr, hK⟩ := wpV_run hc hag hv
    exact value hnd hr hK
  unfold wpO at h
  cases ho : o.op with
  | store t x y =>
    simp only [ho] at h
    split at h
    · rename_i b of v hx hy
      obtain ⟨w', hr, hK⟩ := Sto.run hc h
      exact skip (by simp [ho]) (by simp [execOp, ho, hag.ev hx, hag.ev hy, Instr.storeAt, Instr.sureAddr, hr]) hK
    · exact h.elim
  | mapUpdate t m k x =>
    simp only [ho] at h
    split at h
    · rename_i vm vk vx h1 h2 h3
      obtain ⟨w', hr, hK⟩ := h
      exact skip (by simp [ho]) (by simp [execOp, ho, hag.ev h1, hag.ev h2, hag.ev h3, hr]) hK
    · exact h.elim
  | insert t m k x =>
    simp only [ho] at h
    split at h
    · rename_i vm vk vx h1 h2 h3
      obtain ⟨w', hr, hK⟩ := h
      exact skip (by simp [ho]) (by simp [execOp, ho, hag.ev h1, hag.ev h2, hag.ev h3, hr]) hK
    · exact h.elim
  | defer cl =>
    simp only [ho] at h
    cases r with
    | some l => simp at h
    | none =>
      simp only [Option.isNone_none, cond_true] at h
      split at h
      · rename_i f hcal
        split at h
        · rename_i fn first cap vs hf hvs
          have h1 := hag.evs hvs
          have h2 : cl.args.map a.eval = vs.toArray := by rw [← h1]; simp [← List.map_toArray]
          have hr : (execOp a.eval o).run c.P w = .ok (.defer { target := .fn fn cap, args := (first.toList ++ vs).toArray }) w := by
            simp [execOp, ho, resolve, hcal, hag.ev hf, Deferred.ofValue, h2]
          show o.uponIn (Wd none) n c.P a (Lift N K) Q ((o.semAt none a.eval).run c.P w)
          rw [Oper.semAt_none, hr, Oper.uponIn_defer]
          have hag' : Ag N e { a with defers := { target := .fn fn cap, args := (first.toList ++ vs).toArray } :: a.defers } := hag
          exact Lift.put hag' (by rw [← hd]) h
        · exact h.elim
      · exact h.elim
  | call cl =>
    simp only [ho] at h
    have hnd : ∀ cl', o.op ≠ .defer cl' := by simp [ho]
    cases hcal : cl.callee with
    | builtin b => simp only [hcal] at h; exact viaV hnd h
    | invoke r m => simp only [hcal, callK] at h
    | value f =>
      simp only [hcal, callK] at h
      split at h
      · rename_i g first cap vs hf hvs
        have h1 := hag.evs hvs
        have h2 : cl.args.map a.eval = vs.toArray := by rw [← h1]; simp [← List.map_toArray]
        unfold callG at h
        cases hb : (Nat.ble c.lo g && Nat.blt g c.hi) with
        | false => simp [hb] at h
        | true =>
          simp only [hb, cond_true] at h
          simp only [Bool.and_eq_true, Nat.ble_eq, Nat.blt_eq] at hb
          have hok := hc.funcs g hb.1 hb.2
          unfold okFn at hok
          cases hfn : c.P.funcs[g]? with
          | none => simp [hfn] at hok
          | some fn =>
            simp only [hfn, Bool.and_eq_true, Bool.not_eq_true'] at hok
            have hbd : fn.body ≠ none := fun hbo => by simp [hbo] at hok
            have hnm : ¬ fn.name = "runtime.NumGoroutine" := by simpa using hok.1
            have harr : first ++ (vs.toArray ++ cap) = (first.toList ++ (vs ++ cap.toList)).toArray := Array.ext' (by simp)
            have hr : (execOp a.eval o).run c.P w = .ok (.enter g (first.toList ++ (vs ++ cap.toList)).toArray) w := by
              simp [execOp, ho, resolve, hcal, hag.ev hf, Deferred.ofValue, h2, invoke, callFunc, hfn, hnm, hbd, harr]
            rw [Oper.semAt_eq _ _ _ hnd, hr, Oper.uponIn_enter]
            refine ⟨fun hh => by simp [Wd, Fence.wide] at hh, (callsWd h.run).mono fun en w' he => ?_⟩
            obtain ⟨v, rfl, hK⟩ := he
            exact Lift.put hag hd hK
      · rename_i l first cap vs hf hvs
        have h1 := hag.evs hvs
        have h2 : cl.args.map a.eval = vs.toArray := by rw [← h1]; simp [← List.map_toArray]
        obtain ⟨lp, hlp, hsz, hR⟩ := h.run
        have hr : (execOp a.eval o).run c.P w = .ok (.round l lp.fn ((lp.params.zip (first.toList ++ vs).toArray).foldl (fun tmps (t, a) => tmps.setIfInBounds t a) lp.tmps) lp.assign lp.body) w := by
          have hsz' : (first ++ vs.toArray).size = lp.params.size := by simpa using hsz
          have harr : first ++ vs.toArray = (first.toList ++ vs).toArray := Array.ext' (by simp)
          have hget : (Instr.getLoop l).run c.P w = .ok lp w := by simp [Instr.getLoop, getObj, Sem.run, hlp]
          rw [harr] at hsz'
          simp only [execOp, ho, resolve, hcal, hag.ev hf, Deferred.ofValue, h2, invoke, Instr.yield, Sem.run_bind, Sem.run_pure, Result.andThen_ok, harr, hget]
          rw [if_neg (by simp [hsz'])]
          rfl
        rw [Oper.semAt_eq _ _ _ hnd, hr, Oper.uponIn_round]
        refine ⟨fun hh => by simp [Wd, Fence.wide] at hh, (roundWd hR).mono fun en w' he => ?_⟩
        obtain ⟨v, rfl, hK⟩ := he
        exact Lift.put hag hd hK
      · exact h.elim
  | _ => simp only [ho] at h; exact viaV (by simp [ho]) h

end Go.E
