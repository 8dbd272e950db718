/- The calculus E, part I: deferred calls; a range over a function. -/
import Derived.Test.YtlfolinjajjgjaaDoorEF
import Derived.RangeFuncLeaves
namespace Go.E

/-- A deferred call that returns. -/
structure CallDP (P : Program) (f : Nat) (args : Array Value) (w : World) (K : Value → World → Prop) : Prop where
  run : ∀ u, CallsDIn Fence.wide 0 P f args u w fun e u' w' => u' = u ∧ Ret K e w'

theorem CallDP.imp {P : Program} {f : Nat} {args : Array Value} {w : World} {Φ K : Value → World → Prop} (h : CallDP P f args w Φ) (k : ∀ v w', Φ v w' → K v w') : CallDP P f args w K := by
  refine ⟨fun u => ⟨trivial, fun c cs hu hr => ?_⟩⟩
  obtain ⟨e, u', w', fr, ⟨hu', v, he, hv⟩, rest⟩ := (h.run u).2 c cs hu hr
  exact ⟨e, u', w', fr, ⟨hu', v, he, k v w' hv⟩, rest⟩

/-- How a frame leaves: its deferred calls, the last first, then the results. -/
def leaveK (c : Cx) (rs : List ResultVar) (Φ : Value → World → Prop) : List Deferred → Env → World → Prop
  | [], e, w => resK c rs e w fun vs => Φ (pack vs) w
  | d :: ds, e, w => match d.target with
    | .collected b => w.heap[b]? = some (.deferred (some [])) ∧ ∀ w', Upd w b (.deferred none) w' → leaveK c rs Φ ds e w'
    | .fn (.func g) cap => bif Nat.ble c.lo g && Nat.blt g c.hi then CallDP c.P g (d.args ++ cap) w (fun _ w' => leaveK c rs Φ ds e w') else False
    | _ => False

def BodyQM (c : Cx) (rs : List ResultVar) (Φ : Value → World → Prop) : PostX := fun ex e ds w =>
  match ex with
  | .normal | .ret => leaveK c rs Φ ds e w
  | _ => False

theorem leaveK_run {c : Cx} (hc : c.Ok) {N : Nat} {fn : Func} {e : Env} {a : Act} {Φ : Value → World → Prop} (hag : Ag N e a) : ∀ (ds : List Deferred) (w : World), leaveK c fn.results.toList Φ ds e w →
    LeavesInM Fence.wide 0 c.P fn a.tmps (Ret Φ) ds .returning w := by
  intro ds
  induction ds with
  | nil =>
    intro w h
    obtain ⟨v, hr, hF⟩ := results_run hc (fn := fn) hag (F := fun v => Φ v w) h
    exact ⟨v, hr, v, rfl, hF⟩
  | cons d ds ih =>
    intro w h
    refine ⟨by simp, ?_⟩
    unfold leaveK at h
    split at h
    · rename_i b hb
      obtain ⟨hd, hk⟩ := h
      refine .inl ⟨b, { w with heap := w.heap.setIfInBounds b (.deferred none) }, hb, ?_, ih _ (hk _ ⟨lt_of_get hd, rfl⟩)⟩
      simp [Instr.takeDeferred, Sem.run_bind, getObj, setObj, Sem.run, hd, Result.andThen]
    · rename_i g cap hg
      cases hb : (Nat.ble c.lo g && Nat.blt g c.hi) with
      | false => rw [hb] at h; exact h.elim
      | true =>
        rw [hb] at h
        simp only [Bool.and_eq_true, Nat.ble_eq, Nat.blt_eq] at hb
        have hok := hc.funcs g hb.1 hb.2
        unfold okFn at hok
        cases hfn : c.P.funcs[g]? with
        | none => simp [hfn] at hok
        | some f =>
          simp only [hfn, Bool.and_eq_true, Bool.not_eq_true'] at hok
          have hbd : f.body ≠ none := fun hbo => by simp [hbo] at hok
          have hnm : ¬ f.name = "runtime.NumGoroutine" := by simpa using hok.1
          refine .inr ⟨fun hh => by simp [Fence.wide] at hh, .func g, cap, g, d.args ++ cap, hg, ?_, fun _ _ => trivial, ?_⟩
          · rw [hg]; simp [invoke, callFunc, hfn, hnm, hbd]
          · refine ⟨trivial, fun c0 cs hu hr => ?_⟩
            obtain ⟨en, u', w', fr, ⟨hu', v, he, hv⟩, rest⟩ := ((show CallDP _ _ _ _ _ from h).run .returning).2 c0 cs hu (room_wide _)
            subst he
            subst hu'
            exact ⟨_, _, w', fr, ih w' hv, rest⟩
    · exact h.elim

/-- The contract of a function with deferred calls, or with a range over a function. -/
theorem calls_body_m {c : Cx} (hc : c.Ok) {f : Nat} {fn : Func} {code : Code} {args : List Value} {w : World} {Φ : Value → World → Prop} (hf : c.P.funcs[f]? = some fn) (hb : fn.body = some code)
    (N : Nat) (hN : fn.ntmps = N) (hle : Nat.ble args.length N = true) (rs : List ResultVar) (hrs : fn.results = rs.toArray)
    (h : wpC c none N code (BodyQM c rs Φ) (argsEnv 0 args) [] w) : Calls c.P f args.toArray w (Ret Φ) := by
  rw [← callsIn_wide (n := 0)]
  refine callsIn_of_wp_marks hf hb trivial ?_ rfl
  have hag := argsEnv_ag N args (Nat.le_of_ble_eq_true hle)
  have hw := (wpC_run hc code _ _ _ _ h).run _ hag rfl
  have e : fn.ntmps - args.toArray.size = N - args.length := by rw [hN]; simp
  rw [e]
  refine wpIn_mono hw fun ex a' w' h' => ?_
  obtain ⟨e', ds', hag', hd', h'⟩ := h'
  cases ex with
  | normal => subst hd'; exact leaveK_run hc hag' _ w' (by rw [hrs]; exact h')
  | ret => subst hd'; exact leaveK_run hc hag' _ w' (by rw [hrs]; exact h')
  | _ => exact h'.elim

/-- The contract of a function when it is called as a deferred one. -/
theorem callsD_body {c : Cx} (hc : c.Ok) {f : Nat} {fn : Func} {code : Code} {args : List Value} {w : World} {Φ : Value → World → Prop} (hf : c.P.funcs[f]? = some fn) (hb : fn.body = some code)
    (N : Nat) (hN : fn.ntmps = N) (hle : Nat.ble args.length N = true) (rs : List ResultVar) (hrs : fn.results = rs.toArray)
    (h : wpC c none N code (BodyQ c rs Φ) (argsEnv 0 args) [] w) : CallDP c.P f args.toArray w Φ := by
  refine ⟨fun u => callsDIn_of_wp hf hb trivial ?_ rfl⟩
  have hag := argsEnv_ag N args (Nat.le_of_ble_eq_true hle)
  have hw := (wpC_run hc code _ _ _ _ h).run _ hag rfl
  have e : fn.ntmps - args.toArray.size = N - args.length := by rw [hN]; simp
  rw [e]
  refine wpIn_mono hw fun ex a' w' h' => ?_
  obtain ⟨e', ds', hag', hd', h'⟩ := h'
  cases ex with
  | normal =>
    simp only [BodyQ] at h'
    split at h'
    · obtain ⟨v, hr, hF⟩ := results_run hc (fn := fn) hag' (F := fun v => Φ v w') (by rw [hrs]; exact h')
      exact ⟨hd', v, hr, v, rfl, hF⟩
    · exact h'.elim
  | ret =>
    simp only [BodyQ] at h'
    split at h'
    · obtain ⟨v, hr, hF⟩ := results_run hc (fn := fn) hag' (F := fun v => Φ v w') (by rw [hrs]; exact h')
      exact ⟨hd', v, hr, v, rfl, hF⟩
    · exact h'.elim
  | _ => exact h'.elim

/-! A range over a function -/

/-- What is asked at a round's end. -/
def RoundQ (l : Nat) (K : Value → World → Prop) : PostX := fun ex _ _ w =>
  match ex with
  | .normal => ∃ lp, w.heap[l]? = some (.loop lp) ∧ ∀ w', Upd w l (.loop { lp with state := .ready, pending := none }) w' → K (.bool true) w'
  | .ret => ∃ lp, w.heap[l]? = some (.loop lp) ∧ ∀ w', Upd w l (.loop { lp with state := .done, pending := some .ret }) w' → K (.bool false) w'
  | .exit id => ∃ lp, w.heap[l]? = some (.loop lp) ∧ ∀ w', Upd w l (.loop { lp with state := .done, pending := some (.exit id) }) w' → K (.bool false) w'
  | _ => False

def bindPs (N : Nat) (e : Env) : List Nat → List Value → Option Env
  | [], [] => some e
  | p :: ps, v :: vs => bif Nat.blt p N then bindPs N ((p, v) :: e) ps vs else none
  | _, _ => none

theorem bindPs_ag {N : Nat} : ∀ (ps : List Nat) (vs : List Value) (e e1 : Env) (t : Array Value) (ds : List Deferred), Ag N e ⟨t, ds⟩ → bindPs N e ps vs = some e1 →
    Ag N e1 ⟨(ps.zip vs).foldl (fun t (p : Nat × Value) => t.setIfInBounds p.1 p.2) t, ds⟩
  | [], [], e, e1, t, ds, h, hb => by simp only [bindPs, Option.some.injEq] at hb; subst hb; exact h
  | [], _ :: _, _, _, _, _, _, hb => by simp [bindPs] at hb
  | _ :: _, [], _, _, _, _, _, hb => by simp [bindPs] at hb
  | p :: ps, v :: vs, e, e1, t, ds, h, hb => by
    simp only [bindPs] at hb
    cases hp : Nat.blt p N with
    | false => simp [hp] at hb
    | true =>
      simp only [hp, cond_true] at hb
      have hput : E.put N e (some p) v (fun e' => e' = (p, v) :: e) := by simp [E.put, hp]
      obtain ⟨e', hag, rfl⟩ := h.put hput
      exact bindPs_ag ps vs _ e1 _ ds hag hb

theorem upd_loop {P : Program} {l : Nat} {lp : Loop} {w : World} (o : Obj) (h : w.heap[l]? = some (.loop lp)) : (setObj l o).run P w = .ok () { w with heap := w.heap.setIfInBounds l o } := by
  simp [setObj, Sem.run, h]
theorem get_loop {P : Program} {l : Nat} {lp : Loop} {w : World} (h : w.heap[l]? = some (.loop lp)) : (Instr.getLoop l).run P w = .ok lp w := by
  simp [Instr.getLoop, getObj, Sem.run, h]

/-- A round, out of the loop's record. -/
theorem round_rule {c : Cx} (hc : c.Ok) {l N : Nat} {lp : Loop} {e e1 : Env} {args : List Value} {w : World} {K : Value → World → Prop} (ps : List Nat) (hl : w.heap[l]? = some (.loop lp)) (hst : lp.state = .ready)
    (hps : lp.params = ps.toArray) (hlen : args.length = ps.length) (hag : Ag N e ⟨lp.tmps, []⟩) (hbind : bindPs N e ps args = some e1)
    (h : wpC c (some l) N lp.assign (fun ex => match ex with
      | .normal => fun e2 ds2 w2 => w2.heap[l]? = some (.loop lp) ∧ ∀ w3, Upd w2 l (.loop { lp with state := .busy }) w3 → wpC c (some l) N lp.body (RoundQ l K) e2 ds2 w3
      | _ => fun _ _ _ => False) e1 [] w) : CallYP c l args w K := by
  refine ⟨lp, hl, by rw [hps]; simpa using hlen, ?_⟩
  have hag1 := bindPs_ag ps args e e1 lp.tmps [] hag hbind
  have htm : (lp.params.zip args.toArray).foldl (fun tmps (t, a) => tmps.setIfInBounds t a) lp.tmps = (ps.zip args).foldl (fun t (p : Nat × Value) => t.setIfInBounds p.1 p.2) lp.tmps := by
    rw [hps]
    simp only [List.zip_toArray, List.size_toArray, List.foldl_toArray']
  rw [htm]
  refine roundIn_of_wpIn trivial ?_
  refine wpIn_mono ((wpC_run hc lp.assign _ _ _ _ h).run _ hag1 rfl) fun ex a' w' h' => ?_
  obtain ⟨e2, ds2, hag2, hd2, h'⟩ := h'
  cases ex with
  | normal =>
    obtain ⟨hl2, h'⟩ := h'
    refine ⟨_, ?_, wpIn_mono ((wpC_run hc lp.body _ _ _ _ (h' _ ⟨lt_of_get hl2, rfl⟩)).run _ hag2 hd2) fun ex a3 w3 h3 => ?_⟩
    · simp [Instr.beginRound, get_loop hl2, upd_loop _ hl2, hst]
    · obtain ⟨e3, ds3, hag3, hd3, h3⟩ := h3
      cases ex with
      | normal =>
        obtain ⟨lp', hl', hk⟩ := h3
        exact ⟨_, _, by simp [Instr.endRound, get_loop hl', upd_loop _ hl'], _, rfl, hk _ ⟨lt_of_get hl', rfl⟩⟩
      | ret =>
        obtain ⟨lp', hl', hk⟩ := h3
        exact ⟨_, _, by simp [Instr.endRound, get_loop hl', upd_loop _ hl'], _, rfl, hk _ ⟨lt_of_get hl', rfl⟩⟩
      | exit id =>
        obtain ⟨lp', hl', hk⟩ := h3
        exact ⟨_, _, by simp [Instr.endRound, get_loop hl', upd_loop _ hl'], _, rfl, hk _ ⟨lt_of_get hl', rfl⟩⟩
      | _ => exact h3.elim
  | _ => exact h'.elim

/-- The statement, outside every other. -/
theorem range_rule {c : Cx} (hc : c.Ok) {N : Nat} {f : Operand} {ps : Array Nat} {as bd : Code} {Q : PostX} {e : Env} {ds : List Deferred} {w : World} {g : Nat} {first cap : List Value}
    (hf : ev e f = some (.func (.func g) first.toArray cap.toArray)) (hg : (Nat.ble c.lo g && Nat.blt g c.hi) = true)
    (h : ∀ fn tmps bD l w0 w1, New w bD (.deferred (some [])) w0 → New w0 l (.loop { state := .ready, pending := none, fn, tmps, params := ps, assign := as, body := bd, defers := bD }) w1 → Ag N e ⟨tmps, []⟩ →
      CallP c.P g (first ++ (.func (.yield l) #[] #[] :: cap)).toArray w1 fun _ w3 => ∃ lp, w3.heap[l]? = some (.loop lp) ∧ lp.state ≠ .busy ∧
        ∀ w4, Upd w3 l (.loop { lp with state := .exhausted }) w4 → match lp.pending with
          | none => Q .normal e ({ target := .collected bD, args := #[] } :: ds) w4
          | some .ret => Q .ret e ({ target := .collected bD, args := #[] } :: ds) w4
          | some (.exit id) => Q (.exit id) e ({ target := .collected bD, args := #[] } :: ds) w4
          | _ => False) : G c none N (.rangeFunc f ps as bd) Q e ds w := by
  refine ⟨fun a hag hd => wpIn_rangeFunc fun fn _ => ?_⟩
  obtain ⟨W0, hW0⟩ : ∃ W0 : World, W0 = { w with heap := w.heap.push (.deferred (some [])) } := ⟨_, rfl⟩
  have hs0 : W0.heap.size = w.heap.size + 1 := by rw [hW0]; simp
  obtain ⟨W2, hW2⟩ : ∃ W2 : World, W2 = { W0 with heap := W0.heap.push (.loop { state := .ready, pending := none, fn, tmps := a.tmps, params := ps, assign := as, body := bd, defers := w.heap.size }) } := ⟨_, rfl⟩
  have hcall := h fn a.tmps w.heap.size (w.heap.size + 1) W0 W2 ⟨rfl, hW0⟩ ⟨hs0.symm, hW2⟩ hag
  simp only [Bool.and_eq_true, Nat.ble_eq, Nat.blt_eq] at hg
  have hok := hc.funcs g hg.1 hg.2
  unfold okFn at hok
  cases hfn : c.P.funcs[g]? with
  | none => simp [hfn] at hok
  | some fx =>
    simp only [hfn, Bool.and_eq_true, Bool.not_eq_true'] at hok
    have hbd : fx.body ≠ none := fun hbo => by simp [hbo] at hok
    have hnm : ¬ fx.name = "runtime.NumGoroutine" := by simpa using hok.1
    refine ⟨w.heap.size + 1, [{ target := .collected w.heap.size, args := #[] }], W2, { target := .fn (.func g) cap.toArray, args := (first ++ [Value.func (.yield (w.heap.size + 1)) #[] #[]]).toArray }, W2, g, (first ++ (Value.func (.yield (w.heap.size + 1)) #[] #[] :: cap)).toArray, W2,
      ?_, ?_, fun _ _ => trivial, ?_, fun hh => by simp [Wd, Fence.wide] at hh, (callsWd hcall.run).mono fun en w' he => ?_⟩
    · rw [hW2, ← hs0]
      simp only [Instr.enterLoop, Wd, Sem.run_bind, newObj, Sem.run, Result.andThen_ok, Sem.run_pure]
      rw [hW0]
    · simp only [resolve, hag.ev hf, Deferred.ofValue]
      simp [Act.eval]
    · simp [invoke, callFunc, hfn, hnm, hbd]
    · obtain ⟨v, rfl, lp, hl, hb, hk⟩ := he
      have hk := hk _ ⟨lt_of_get hl, rfl⟩
      refine ⟨lp.pending, { w' with heap := w'.heap.setIfInBounds (w.heap.size + 1) (.loop { lp with state := .exhausted }) }, ?_, ?_⟩
      · simp [Instr.endLoop, get_loop hl, upd_loop _ hl, hb]
      · have hag' : Ag N e { a with defers := [{ target := .collected w.heap.size, args := #[] }] ++ a.defers } := hag
        have hd' : ({ a with defers := [{ target := .collected w.heap.size, args := #[] }] ++ a.defers } : Act).defers = { target := .collected w.heap.size, args := #[] } :: ds := by rw [← hd]; rfl
        cases hp : lp.pending with
        | none => rw [hp] at hk; exact ⟨e, _, hag', hd', hk⟩
        | some cd =>
          rw [hp] at hk
          cases cd with
          | ret => exact wpIn_ret ⟨e, _, hag', hd', hk⟩
          | exit id => exact wpIn_exit ⟨e, _, hag', hd', hk⟩
          | _ => exact hk.elim

end Go.E
