/- The calculus E, part F: regions in the order of the text, code, loops, the body of a function. -/
import Derived.Test.YtlfolinjajjgjaaDoorEE
import Derived.DefersIn
namespace Go.E

/-- An operation with its guard. -/
def wpGd (c : Cx) (plain : Bool) (N : Nat) (ops : List Oper) (o : Oper) (K : Post) : Post := fun e ds w =>
  match o.guard with
  | none => wpO c plain N o e ds w K
  | some (j, want) => match (ops[j]?).bind (·.dst) with
    | some d => match get e d with
      | some (.bool b) => bif (b == want) then wpO c plain N o e ds w K else put N e o.dst undef fun e' => K e' ds w
      | some _ => put N e o.dst undef fun e' => K e' ds w
      | none => False
    | none => False

theorem wpGd_run {c : Cx} (hc : c.Ok) {r : Option Nat} {n N : Nat} {ops : Array Oper} {o : Oper} {e : Env} {a : Act} {ds : List Deferred} {w : World} {K : Post} {Q : Exit → Act → World → Prop}
    (hag : Ag N e a) (hd : a.defers = ds) (h : wpGd c r.isNone N ops.toList o K e ds w) :
    if Region.wanted o (yielded ops a.tmps) then o.wpIn (Wd r) n c.P a w (Lift N K) Q else (∀ f, o.about c.P w a.eval = some f → (Wd r).fn f) ∧ Lift N K (a.put o.dst undef) w := by
  unfold wpGd at h
  split at h
  · rename_i hg
    rw [if_pos (by simp [Region.wanted, hg])]
    exact wpO_run hc hag hd h
  · rename_i j want hg
    split at h
    · rename_i d hj
      have hj' : (ops[j]?).bind (·.dst) = some d := by rw [← Array.getElem?_toList]; exact hj
      have hy : ∀ v, get e d = some v → yielded ops a.tmps j = (match v with | .bool b => some b | _ => none) := by
        intro v hv
        have := hag.2 d v hv
        unfold yielded
        rw [hj', Option.bind_some, this]
        cases v <;> rfl
      split at h
      · rename_i b hb
        have hyb := hy _ hb
        cases hbw : (b == want) with
        | true =>
          rw [hbw] at h
          rw [if_pos (by simp only [Region.wanted, hg, hyb]; simpa using hbw)]
          exact wpO_run hc hag hd h
        | false =>
          rw [hbw] at h
          rw [if_neg (by simp only [Region.wanted, hg, hyb]; simpa using hbw)]
          exact ⟨about_wide r, Lift.put hag hd h⟩
      · rename_i v hnb hv
        have hyb := hy _ hv
        rw [if_neg (by
          simp only [Region.wanted, hg, hyb]
          cases v <;> simp at hnb ⊢)]
        exact ⟨about_wide r, Lift.put hag hd h⟩
      · exact h.elim
    · exact h.elim

def wpL (c : Cx) (plain : Bool) (N : Nat) (ops : List Oper) : List Oper → Post → Post
  | [], K => K
  | o :: r, K => wpGd c plain N ops o (wpL c plain N ops r K)

theorem wpOpsIn_mono {F : Fence} {n : Nat} {P : Program} {ops : Array Oper} {Q : Exit → Act → World → Prop} (i : Nat) (rest : List Nat) (a : Act) (w : World) (K : Act → World → Prop)
    (hK : ∀ a w, K a w → wpOpsIn F n P ops Q rest a w) (h : wpOpIn F n P ops Q i K a w) : wpOpsIn F n P ops Q (i :: rest) a w := by
  rw [wpOpsIn_cons]
  exact wpOpIn_mono hK h

theorem wpL_run {c : Cx} (hc : c.Ok) {r : Option Nat} {n N : Nat} {ops : Array Oper} {K : Post} {Q : Exit → Act → World → Prop} (hQ : ∀ a w, Lift N K a w → Q .normal a w) :
    ∀ (l : List Oper) (k : Nat), (∀ j, l[j]? = ops[k + j]?) → ∀ (e : Env) (a : Act) (ds : List Deferred) (w : World), Ag N e a → a.defers = ds → wpL c r.isNone N ops.toList l K e ds w →
      wpOpsIn (Wd r) n c.P ops Q (List.range' k l.length) a w := by
  intro l
  induction l with
  | nil => intro k _ e a ds w hag hd h; exact hQ a w ⟨e, ds, hag, hd, h⟩
  | cons o l ih =>
    intro k hl e a ds w hag hd h
    have h0 : ops[k]? = some o := by simpa using (hl 0).symm
    simp only [List.length_cons, List.range'_succ]
    refine wpOpsIn_mono k _ a w (Lift N (wpL c r.isNone N ops.toList l K)) (fun a' w' h' => ?_) ?_
    · obtain ⟨e', ds', hag', hd', h'⟩ := h'
      exact ih (k + 1) (fun j => by have := hl (j + 1); simpa [Nat.add_assoc, Nat.add_comm 1 j] using this) e' a' ds' w' hag' hd' h'
    · unfold wpOpIn
      rw [h0]
      exact wpGd_run hc hag hd h

abbrev PostX := Exit → Post
def LiftX (N : Nat) (Q : PostX) : Exit → Act → World → Prop := fun ex => Lift N (Q ex)

/-- What a piece of code does, from a frame and a world on: by the model itself. -/
structure G (c : Cx) (r : Option Nat) (N : Nat) (code : Code) (Q : PostX) (e : Env) (ds : List Deferred) (w : World) : Prop where
  run : ∀ a, Ag N e a → a.defers = ds → code.wpIn (Wd r) 0 c.P (LiftX N Q) a w

def wpC (c : Cx) (r : Option Nat) (N : Nat) : Code → PostX → Post
  | .skip, Q => Q .normal
  | .region id ops draw, Q => bif draw then G c r N (.region id ops true) Q else wpL c r.isNone N ops.toList ops.toList (Q .normal)
  | .seq x y, Q => wpC c r N x fun ex => match ex with
    | .normal => wpC c r N y Q
    | ex => Q ex
  | .cond x y z, Q => fun e ds w => match ev e x with
    | some (.bool true) => wpC c r N y Q e ds w
    | some (.bool false) => wpC c r N z Q e ds w
    | _ => False
  | .block id x, Q => wpC c r N x fun ex => match ex with
    | .exit j => bif Nat.beq j id then Q .normal else Q (.exit j)
    | ex => Q ex
  | .loop x, Q => G c r N (.loop x) Q
  | .rangeFunc f ps as bd, Q => G c r N (.rangeFunc f ps as bd) Q
  | .exit id, Q => Q (.exit id)
  | .ret, Q => Q .ret
  | _, _ => fun _ _ _ => False

theorem wpC_run {c : Cx} (hc : c.Ok) {r : Option Nat} {N : Nat} : ∀ (code : Code) (Q : PostX) (e : Env) (ds : List Deferred) (w : World), wpC c r N code Q e ds w → G c r N code Q e ds w := by
  intro code
  induction code with
  | skip => intro Q e ds w h; exact ⟨fun a hag hd => wpIn_skip ⟨e, ds, hag, hd, h⟩⟩
  | region id ops draw =>
    intro Q e ds w h
    cases draw with
    | true => exact h
    | false =>
      refine ⟨fun a hag hd => wpIn_region ?_⟩
      have := wpL_run hc (n := 0) (Q := LiftX N Q) (K := Q .normal) (fun _ _ h => h) ops.toList 0 (fun j => by simp) e a ds w hag hd h
      rw [List.range_eq_range']
      simpa using this
  | seq x y ihx ihy =>
    intro Q e ds w h
    refine ⟨fun a hag hd => wpIn_seq (wpIn_mono ((ihx _ e ds w h).run a hag hd) fun ex a' w' h' => ?_)⟩
    cases ex with
    | normal => obtain ⟨e', ds', hag', hd', h'⟩ := h'; exact (ihy Q e' ds' w' h').run a' hag' hd'
    | _ => exact h'
  | cond x y z ihy ihz =>
    intro Q e ds w h
    simp only [wpC] at h
    refine ⟨fun a hag hd => ?_⟩
    split at h
    · rename_i hx; exact wpIn_cond_true (hag.ev hx) ((ihy Q e ds w h).run a hag hd)
    · rename_i hx; exact wpIn_cond_false (hag.ev hx) ((ihz Q e ds w h).run a hag hd)
    · exact h.elim
  | block id x ih =>
    intro Q e ds w h
    refine ⟨fun a hag hd => wpIn_block (wpIn_mono ((ih _ e ds w h).run a hag hd) fun ex a' w' h' => ?_)⟩
    cases ex with
    | exit j =>
      obtain ⟨e', ds', hag', hd', h'⟩ := h'
      simp only [Exit.inBlock]
      by_cases hj : j = id
      · subst hj
        simp only [if_true]
        exact ⟨e', ds', hag', hd', by simpa using h'⟩
      · rw [if_neg hj]
        have : Nat.beq j id = false := by cases hb : Nat.beq j id; rfl; exact absurd (Nat.eq_of_beq_eq_true hb) hj
        exact ⟨e', ds', hag', hd', by simpa [this] using h'⟩
    | _ => exact h'
  | loop x _ => intro Q e ds w h; exact h
  | rangeFunc f ps as bd _ _ => intro Q e ds w h; exact h
  | exit id => intro Q e ds w h; exact ⟨fun a hag hd => wpIn_exit ⟨e, ds, hag, hd, h⟩⟩
  | ret => intro Q e ds w h; exact ⟨fun a hag hd => wpIn_ret ⟨e, ds, hag, hd, h⟩⟩
  | _ => intro Q e ds w h; exact h.elim

/-- One frame's facts out of another's. -/
def Sub (e : Env) : Env → Prop
  | [] => True
  | (i, v) :: r => get e i = some v ∧ Sub e r

theorem Sub.get {e : Env} : ∀ {e' : Env}, Sub e e' → ∀ {i : Nat} {v : Value}, E.get e' i = some v → E.get e i = some v
  | [], _, _, _, h => by simp [E.get] at h
  | (j, u) :: r, ⟨h1, h2⟩, i, v, h => by
    simp only [E.get] at h
    cases hb : Nat.beq j i with
    | true =>
      simp only [hb, cond_true, Option.some.injEq] at h
      subst h
      rw [← Nat.eq_of_beq_eq_true hb]; exact h1
    | false =>
      simp only [hb, cond_false] at h
      exact h2.get h

theorem Ag.sub {N : Nat} {e e' : Env} {a : Act} (h : Ag N e a) (hs : Sub e e') : Ag N e' a := ⟨h.1, fun i v hv => h.2 i v (hs.get hv)⟩

theorem G.sub {c : Cx} {r : Option Nat} {N : Nat} {code : Code} {Q : PostX} {e e' : Env} {ds : List Deferred} {w : World} (hs : Sub e e') (h : G c r N code Q e' ds w) : G c r N code Q e ds w :=
  ⟨fun a hag hd => h.run a (hag.sub hs) hd⟩

/-- A loop: 'I x' says what holds at the head of a round, the frame 'E x' what is known of the slots, 'μ x' falls. -/
theorem loop_rule {c : Cx} (hc : c.Ok) {r : Option Nat} {N : Nat} {body : Code} {Q : PostX} {e : Env} {ds : List Deferred} {w : World} {α : Type} (I : α → World → Prop) (E : α → Env) (μ : α → Nat)
    (x₀ : α) (hs : Sub e (E x₀)) (h₀ : I x₀ w)
    (round : ∀ x w, I x w → wpC c r N body (fun ex => match ex with
      | .normal => fun e' ds' w' => ds' = ds ∧ ∃ x', Sub e' (E x') ∧ I x' w' ∧ μ x' < μ x
      | ex => Q ex) (E x) ds w) : G c r N (.loop body) Q e ds w := by
  have key : ∀ m x w, μ x < m → I x w → ∀ a, Ag N (E x) a → a.defers = ds → Code.roundsIn (Wd r) 0 c.P body (LiftX N Q) m a w := by
    intro m
    induction m with
    | zero => intro x w hm; omega
    | succ m ih =>
      intro x w hm hI a hag hd
      rw [roundsIn_succ]
      refine wpIn_mono ((wpC_run hc body _ _ _ _ (round x w hI)).run a hag hd) fun ex a' w' h' => ?_
      cases ex with
      | normal =>
        obtain ⟨e', ds', hag', hd', rfl, x', hsub, hI', hlt⟩ := h'
        exact ih x' w' (by omega) hI' a' (hag'.sub hsub) hd'
      | _ => exact h'
  refine ⟨fun a hag hd => ?_⟩
  exact wpIn_loop_rounds (μ x₀ + 1) (key _ x₀ w (by omega) h₀ a (hag.sub hs) hd)

/-! The body of a function -/

def resK (c : Cx) : List ResultVar → Env → World → (List Value → Prop) → Prop
  | [], _, _, F => F []
  | .tmp t :: r, e, w, F => match get e t with
    | some v => resK c r e w fun vs => F (v :: vs)
    | none => False
  | .cell a t :: r, e, w, F => match get e a with
    | some (.pointer (some ⟨b, o, none⟩)) => Ld c t w b o fun v => resK c r e w fun vs => F (v :: vs)
    | _ => False

def pack : List Value → Value
  | [v] => v
  | vs => .tuple vs.toArray

@[simp] theorem pack_one (v : Value) : pack [v] = v := rfl
@[simp] theorem pack_none : pack [] = .tuple #[] := rfl
@[simp] theorem pack_two (u v : Value) : pack [u, v] = .tuple #[u, v] := rfl
@[simp] theorem pack_three (u v x : Value) : pack [u, v, x] = .tuple #[u, v, x] := rfl

def rv (tmps : Array Value) : ResultVar → Sem Value
  | .tmp t => pure (tmps.getD t undef)
  | .cell x t => do loadVar t (← asAddr (tmps.getD x undef))

theorem results_rv (fn : Func) (tmps : Array Value) : results fn tmps = (do let vs ← fn.results.mapM (rv tmps); pure (if h : vs.size = 1 then vs[0] else .tuple vs)) := by
  have : (fun | .tmp t => pure (tmps.getD t undef) | .cell a t => do loadVar t (← asAddr (tmps.getD a undef)) : ResultVar → Sem Value) = rv tmps := by
    funext x; cases x <;> rfl
  unfold results
  rw [← this]
  rfl

theorem rv_cell (P : Program) (w : World) (tmps : Array Value) (x t : Nat) (a : Addr) (h : tmps.getD x undef = .pointer (some a)) : (rv tmps (.cell x t)).run P w = (loadVar t a).run P w := by
  simp [rv, h, asAddr]

theorem resK_run {c : Cx} (hc : c.Ok) {N : Nat} {e : Env} {a : Act} {w : World} (hag : Ag N e a) : ∀ (rs : List ResultVar) (F : List Value → Prop), resK c rs e w F →
    ∃ vs, (rs.mapM (rv a.tmps)).run c.P w = .ok vs w ∧ F vs := by
  intro rs
  induction rs with
  | nil => intro F h; exact ⟨[], by simp, h⟩
  | cons x r ih =>
    intro F h
    cases x with
    | tmp t =>
      simp only [resK] at h
      split at h
      · rename_i v hv
        obtain ⟨vs, hr, hF⟩ := ih _ h
        refine ⟨v :: vs, ?_, hF⟩
        have := hag.2 t v hv
        simp only [List.mapM_cons, Sem.run_bind, rv, Sem.run_pure, Result.andThen_ok, hr]
        simp [this]
      · exact h.elim
    | cell x t =>
      simp only [resK] at h
      split at h
      · rename_i b o hx
        obtain ⟨v, hl, h⟩ := Ld.run hc h
        obtain ⟨vs, hr, hF⟩ := ih _ h
        refine ⟨v :: vs, ?_, hF⟩
        have hx' : a.tmps.getD x undef = .pointer (some ⟨b, o, none⟩) := by simp [hag.2 x _ hx]
        simp only [List.mapM_cons, Sem.run_bind, rv_cell c.P w a.tmps x t _ hx', Sem.run_pure, Result.andThen_ok, hl, hr]
      · exact h.elim

theorem results_run {c : Cx} (hc : c.Ok) {N : Nat} {e : Env} {a : Act} {w : World} (hag : Ag N e a) {fn : Func} {F : Value → Prop} (h : resK c fn.results.toList e w fun vs => F (pack vs)) :
    ∃ v, (results fn a.tmps).run c.P w = .ok v w ∧ F v := by
  obtain ⟨vs, hr, hF⟩ := resK_run hc hag _ _ h
  refine ⟨_, ?_, hF⟩
  rw [results_rv]
  simp only [Sem.run_bind, Array.mapM_eq_mapM_toList, Sem.run_map, hr, Result.andThen_ok, Sem.run_pure]
  congr 1
  match vs with
  | [] => rfl
  | [v] => rfl
  | v :: u :: r => simp [pack]

def BodyQ (c : Cx) (rs : List ResultVar) (Φ : Value → World → Prop) : PostX := fun ex e ds w =>
  match ex with
  | .normal | .ret => match ds with
    | [] => resK c rs e w fun vs => Φ (pack vs) w
    | _ :: _ => False
  | _ => False

def argsEnv : Nat → List Value → Env
  | _, [] => []
  | i, v :: r => (i, v) :: argsEnv (i + 1) r

theorem argsEnv_get : ∀ (l : List Value) (k i : Nat) (v : Value), get (argsEnv k l) i = some v → ∃ j, i = k + j ∧ l[j]? = some v := by
  intro l
  induction l with
  | nil => intro k i v h; simp [argsEnv, get] at h
  | cons u r ih =>
    intro k i v h
    simp only [argsEnv, get] at h
    cases hb : Nat.beq k i with
    | true =>
      simp only [hb, cond_true, Option.some.injEq] at h
      exact ⟨0, by rw [← Nat.eq_of_beq_eq_true hb]; rfl, by simp [h]⟩
    | false =>
      simp only [hb, cond_false] at h
      obtain ⟨j, hj, hv⟩ := ih (k + 1) i v h
      exact ⟨j + 1, by omega, by simpa using hv⟩

theorem argsEnv_ag (N : Nat) (args : List Value) (h : args.length ≤ N) : Ag N (argsEnv 0 args) { tmps := args.toArray ++ Array.replicate (N - args.length) undef, defers := [] } := by
  refine ⟨by simp; omega, fun i v hv => ?_⟩
  obtain ⟨j, hj, hv⟩ := argsEnv_get _ _ _ _ hv
  obtain rfl : i = j := by omega
  have hlt : i < args.length := (List.getElem?_eq_some_iff.1 hv).1
  rw [Array.getElem?_append_left (by simpa using hlt)]
  simpa using hv

/-- The contract of a function without deferred calls. -/
theorem calls_body {c : Cx} (hc : c.Ok) {f : Nat} {fn : Func} {code : Code} {args : List Value} {w : World} {Φ : Value → World → Prop} (hf : c.P.funcs[f]? = some fn) (hb : fn.body = some code)
    (N : Nat) (hN : fn.ntmps = N) (hle : Nat.ble args.length N = true) (rs : List ResultVar) (hrs : fn.results = rs.toArray)
    (h : wpC c none N code (BodyQ c rs Φ) (argsEnv 0 args) [] w) : Calls c.P f args.toArray w (Ret Φ) := by
  rw [← callsIn_wide (n := 0)]
  refine callsIn_of_wp hf hb trivial ?_ rfl
  have hag := argsEnv_ag N args (Nat.le_of_ble_eq_true hle)
  have hw := (wpC_run hc code _ _ _ _ h).run _ hag rfl
  have e : fn.ntmps - args.toArray.size = N - args.length := by rw [hN]; simp
  rw [e]
  refine wpIn_mono hw fun ex a' w' h' => ?_
  obtain ⟨e', ds', hag', hd', h'⟩ := h'
  cases ex with
  | normal =>
    simp only [BodyQ] at h'
    split at h'
    · obtain ⟨v, hr, hF⟩ := results_run hc (fn := fn) hag' (F := fun v => Φ v w') (by rw [hrs]; exact h')
      exact ⟨hd', v, hr, v, rfl, hF⟩
    · exact h'.elim
  | ret =>
    simp only [BodyQ] at h'
    split at h'
    · obtain ⟨v, hr, hF⟩ := results_run hc (fn := fn) hag' (F := fun v => Φ v w') (by rw [hrs]; exact h')
      exact ⟨hd', v, hr, v, rfl, hF⟩
    · exact h'.elim
  | _ => exact h'.elim

end Go.E
