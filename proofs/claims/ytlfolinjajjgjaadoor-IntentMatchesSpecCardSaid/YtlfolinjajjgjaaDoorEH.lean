/- The calculus E, part H: a region that draws its order: by a plan. -/
import Derived.Test.YtlfolinjajjgjaaDoorEF
import Derived.OrdersHeld
namespace Go.E

/-! What is taken first -/

def LdS (c : Cx) (t : Nat) (S : World → Prop) (b o : Nat) (K : Value → Prop) : Prop :=
  match tget c.tb t with
  | some x => bif x.agg then ∃ cs, (∀ w, S w → Cells w b o cs) ∧ cs.length = x.size ∧ K (.agg cs.toArray) else ∃ v, (∀ w, S w → w.cell? ⟨b, o, none⟩ = some v) ∧ K v
  | none => False

theorem LdS.run {c : Cx} (hc : c.Ok) {t : Nat} {S : World → Prop} {b o : Nat} {K : Value → Prop} (h : LdS c t S b o K) : ∃ v, (∀ w, S w → (loadVar t ⟨b, o, none⟩).run c.P w = .ok v w) ∧ K v := by
  unfold LdS at h
  cases ht : tget c.tb t with
  | none => simp [ht] at h
  | some x =>
    simp only [ht] at h
    cases hx : x.agg with
    | true =>
      simp only [hx, cond_true] at h
      obtain ⟨cs, hcs, hl, hK⟩ := h
      refine ⟨_, fun w hS => ?_, hK⟩
      simp [loadVar, run_isAgg hc ht, hx, run_sizeOf hc ht, ← hl, run_loadCells c.P w b o cs (hcs w hS)]
    | false =>
      simp only [hx, cond_false] at h
      obtain ⟨v, hv, hK⟩ := h
      exact ⟨v, fun w hS => by simp [loadVar, run_isAgg hc ht, hx, hv w hS], hK⟩

def convI (c : Cx) (s d : Nat) (x : Value) (K : Value → Prop) : Prop :=
  match x with
  | .int _ n => match tget c.tb s, tget c.tb d with
    | some _, some y => match y.kd with
      | .int k => ∃ m, k.wrap n = m ∧ K (.int k m)
      | _ => False
    | _, _ => False
  | _ => False

theorem convI_run {c : Cx} (hc : c.Ok) {s d : Nat} {x : Value} {K : Value → Prop} (h : convI c s d x K) : PureV c.P (convert s d x) K := by
  unfold convI at h
  split at h
  · rename_i q n
    split at h
    · rename_i a b ha hb
      split at h
      · rename_i k hk
        obtain ⟨m, rfl, hK⟩ := h
        obtain ⟨_, ds, _, hus, _⟩ := hc.info ha
        refine ⟨_, fun w => ?_, hK⟩
        have h2 := run_under_int hc hb hk w
        have h1 : (underlying s).run c.P w = .ok ds w := by simp [underlying, hus]
        simp [convert, h1, h2, Conv.intToInt]
      · exact h.elim
    · exact h.elim
  · exact h.elim

def tkV (c : Cx) (S : World → Prop) (o : Oper) (e : Env) (K : Value → Prop) : Prop :=
  match o.op with
  | .move x | .assign x => match ev e x with
    | some v => K v
    | none => False
  | .pick cnd a b => match ev e cnd with
    | some (.bool true) => (match ev e a, ev e b with | some v, some _ => K v | _, _ => False)
    | some (.bool false) => (match ev e a, ev e b with | some _, some v => K v | _, _ => False)
    | _ => False
  | .build t ps => match evParts e ps.toList with
    | some vs => buildK c t vs K
    | none => False
  | .load t x => match ev e x with
    | some (.pointer (some ⟨b, o, none⟩)) => LdS c t S b o K
    | _ => False
  | .nilCheck x => match ev e x with
    | some (.pointer (some a)) => K (.pointer (some a))
    | some (.func (.func f) a b) => K (.func (.func f) a b)
    | _ => False
  | .binOp op _ x y _ => match ev e x, ev e y with
    | some (.int k a), some (.int k' b) => binI op k a k' b K
    | _, _ => False
  | .unOp op _ x => match op, ev e x with
    | .not, some (.bool b) => K (.bool (!b))
    | _, _ => False
  | .convert s d x => match ev e x with
    | some v => convI c s d v K
    | none => False
  | .makeFunc fn first cap => match evs e first.toList, evs e cap.toList with
    | some a, some b => K (.func fn a.toArray b.toArray)
    | _, _ => False
  | .slice t x lo hi none => match ev e x, lo.map (ev e), hi.map (ev e) with
    | some v, none, none => sliceK c t v none none K
    | some v, some (some l), none => sliceK c t v (some l) none K
    | some v, none, some (some h) => sliceK c t v none (some h) K
    | some v, some (some l), some (some h) => sliceK c t v (some l) (some h) K
    | _, _, _ => False
  | .fieldAddr s x f => match ev e x with
    | some v => fieldAddrK c s v f K
    | none => False
  | .indexAddr t x i => match ev e x, ev e i with
    | some v, some j => indexAddrK c t v j K
    | _, _ => False
  | .index t x i => match ev e x, ev e i with
    | some v, some j => indexK c t v j K
    | _, _ => False
  | .extract x i => match ev e x with
    | some (.tuple vs) => (match vs.toList[i]? with | some v => K v | none => False)
    | _ => False
  | .call cl => match cl.callee, evs e cl.args.toList with
    | .builtin .len, some [.slice _ n _] => bif isSlice (tget c.tb (cl.argTypes.getD 0 0)) && Nat.beq cl.argTypes.size 1 then K (.int .i64 n) else False
    | _, _ => False
  | _ => False

theorem tkV_run {c : Cx} (hc : c.Ok) {S : World → Prop} {o : Oper} {N : Nat} {e : Env} {a : Act} {K : Value → Prop} (hag : Ag N e a) (h : tkV c S o e K) :
    ∃ v, (∀ w, S w → (execOp a.eval o).run c.P w = .ok (.value v) w) ∧ K v := by
  have fin : ∀ {s : Sem Value}, execOp a.eval o = (do pure (.value (← s))) → PureV c.P s K → ∃ v, (∀ w, S w → (execOp a.eval o).run c.P w = .ok (.value v) w) ∧ K v := by
    intro s he hr
    obtain ⟨v, hr, hK⟩ := hr
    exact ⟨v, fun w _ => by rw [he]; simp [hr], hK⟩
  unfold tkV at h
  cases ho : o.op with
  | move x =>
    simp only [ho] at h
    split at h
    · rename_i v hv
      exact ⟨v, fun w _ => by simp [execOp, ho, hag.ev hv], h⟩
    · exact h.elim
  | assign x =>
    simp only [ho] at h
    split at h
    · rename_i v hv
      exact ⟨v, fun w _ => by simp [execOp, ho, hag.ev hv], h⟩
    · exact h.elim
  | pick cnd x y =>
    simp only [ho] at h
    split at h
    · rename_i hcnd
      split at h
      · rename_i v u hv hu
        exact ⟨v, fun w _ => by simp [execOp, ho, hag.ev hcnd, asBool, hag.ev hv], h⟩
      · exact h.elim
    · rename_i hcnd
      split at h
      · rename_i v u hv hu
        exact ⟨u, fun w _ => by simp [execOp, ho, hag.ev hcnd, asBool, hag.ev hu], h⟩
      · exact h.elim
    · exact h.elim
  | build t ps =>
    simp only [ho] at h
    split at h
    · rename_i vs hvs
      refine fin ?_ (build_run hc h)
      have := hag.evParts hvs
      simp only [execOp, ho]
      rw [← this]
      congr 2
      simp [Array.toArray_toList, ← List.map_toArray]
    · exact h.elim
  | load t x =>
    simp only [ho] at h
    split at h
    · rename_i b of hx
      obtain ⟨v, hr, hK⟩ := LdS.run hc h
      exact ⟨v, fun w hS => by simp [execOp, ho, hag.ev hx, Instr.loadAt, Instr.sureAddr, hr w hS], hK⟩
    · exact h.elim
  | nilCheck x =>
    simp only [ho] at h
    split at h
    · rename_i a' hx
      exact ⟨_, fun w _ => by simp [execOp, ho, hag.ev hx], h⟩
    · rename_i f p q hx
      exact ⟨_, fun w _ => by simp [execOp, ho, hag.ev hx], h⟩
    · exact h.elim
  | binOp op t x y ty =>
    simp only [ho] at h
    split at h
    · rename_i k a' k' b' hx hy
      refine fin ?_ (binI_run (t := t) (x := x) (y := y) h)
      simp only [execOp, ho, hag.ev hx, hag.ev hy]
    · exact h.elim
  | unOp op t x =>
    simp only [ho] at h
    split at h
    · rename_i b hx
      exact ⟨_, fun w _ => by simp [execOp, ho, hag.ev hx, Op.unary], h⟩
    · exact h.elim
  | convert s d x =>
    simp only [ho] at h
    split at h
    · rename_i v hx
      exact fin (by simp only [execOp, ho, hag.ev hx]) (convI_run hc h)
    · exact h.elim
  | makeFunc fn p q =>
    simp only [ho] at h
    split at h
    · rename_i va vb hx hy
      refine ⟨_, fun w _ => ?_, h⟩
      have h1 := hag.evs hx
      have h2 := hag.evs hy
      simp only [execOp, ho, Instr.makeFunc, ← h1, ← h2]
      simp [← List.map_toArray]
    · exact h.elim
  | slice t x lo hi mx =>
    cases mx with
    | some m => simp only [ho] at h
    | none =>
      simp only [ho] at h
      split at h
      · rename_i v hx h1 h2
        simp only [Option.map_eq_none_iff] at h1 h2
        exact fin (by simp only [execOp, ho, hag.ev hx, h1, h2, Option.map_none]) (slice_run hc h)
      · rename_i v l hx h1 h2
        simp only [Option.map_eq_none_iff, Option.map_eq_some_iff] at h1 h2
        obtain ⟨l', rfl, h1⟩ := h1
        exact fin (by simp only [execOp, ho, hag.ev hx, h2, Option.map_none, Option.map_some, hag.ev h1]) (slice_run hc h)
      · rename_i v l hx h1 h2
        simp only [Option.map_eq_none_iff, Option.map_eq_some_iff] at h1 h2
        obtain ⟨l', rfl, h2⟩ := h2
        exact fin (by simp only [execOp, ho, hag.ev hx, h1, Option.map_none, Option.map_some, hag.ev h2]) (slice_run hc h)
      · rename_i v l u hx h1 h2
        simp only [Option.map_eq_some_iff] at h1 h2
        obtain ⟨l', rfl, h1⟩ := h1
        obtain ⟨u', rfl, h2⟩ := h2
        exact fin (by simp only [execOp, ho, hag.ev hx, Option.map_none, Option.map_some, hag.ev h1, hag.ev h2]) (slice_run hc h)
      · exact h.elim
  | fieldAddr s x f =>
    simp only [ho] at h
    split at h
    · rename_i v hx
      exact fin (by simp only [execOp, ho, hag.ev hx]) (fieldAddr_run hc h)
    · exact h.elim
  | indexAddr t x i =>
    simp only [ho] at h
    split at h
    · rename_i v j hx hi
      exact fin (by simp only [execOp, ho, hag.ev hx, hag.ev hi]) (indexAddr_run hc h)
    · exact h.elim
  | index t x i =>
    simp only [ho] at h
    split at h
    · rename_i v j hx hi
      exact fin (by simp only [execOp, ho, hag.ev hx, hag.ev hi]) (index_run hc h)
    · exact h.elim
  | extract x i =>
    simp only [ho] at h
    split at h
    · rename_i vs hx
      split at h
      · rename_i v hv
        refine ⟨v, fun w _ => ?_, h⟩
        have hv' : vs[i]? = some v := by rw [← Array.getElem?_toList]; exact hv
        simp [execOp, ho, hag.ev hx, Instr.extract, hv']
      · exact h.elim
    · exact h.elim
  | call cl =>
    simp only [ho] at h
    split at h
    · rename_i b n cp hcal hvs
      have h1 := hag.evs hvs
      have h2 : cl.args.map a.eval = [Value.slice b n cp].toArray := by rw [← h1]; simp [← List.map_toArray]
      cases hb : (isSlice (tget c.tb (cl.argTypes.getD 0 0)) && Nat.beq cl.argTypes.size 1) with
      | false => rw [hb] at h; exact h.elim
      | true =>
        rw [hb] at h
        have h : K (.int .i64 n) := h
        refine ⟨_, fun w _ => ?_, h⟩
        have hK : builtinK c .len cl.argTypes o.type [.slice b n cp] w (fun v' w' => v' = .int .i64 n ∧ w' = w) := by
          show bif (isSlice (tget c.tb (cl.argTypes.getD 0 0)) && Nat.beq cl.argTypes.size 1) then _ else False
          rw [hb]
          exact ⟨rfl, rfl⟩
        obtain ⟨v, w', hr, rfl, rfl⟩ := builtin_run hc (cs := cl.args.map fun | .const _ => true | _ => false) hK
        simp only [execOp, ho, resolve, hcal, pure_bind, invoke, h2]
        exact hr
    · exact h.elim
  | _ => simp only [ho] at h

/-- The taking with its guard. -/
def tkGd (c : Cx) (N : Nat) (S : World → Prop) (ops : List Oper) (o : Oper) (K : Env → Prop) (e : Env) : Prop :=
  match o.guard with
  | none => tkV c S o e fun v => put N e o.dst v K
  | some (j, want) => match (ops[j]?).bind (·.dst) with
    | some d => match get e d with
      | some (.bool b) => bif (b == want) then tkV c S o e fun v => put N e o.dst v K else put N e o.dst undef K
      | some _ => put N e o.dst undef K
      | none => False
    | none => False

theorem tkGd_run {c : Cx} (hc : c.Ok) {N : Nat} {S : World → Prop} {ops : Array Oper} {o : Oper} {e : Env} {a : Act} {K : Env → Prop} (hag : Ag N e a) (h : tkGd c N S ops.toList o K e) :
    ∃ v e', YieldsIf c.P ops S o v a ∧ Ag N e' (a.put o.dst v) ∧ K e' := by
  have yes : Region.wanted o (yielded ops a.tmps) = true → (tkV c S o e fun v => put N e o.dst v K) → ∃ v e', YieldsIf c.P ops S o v a ∧ Ag N e' (a.put o.dst v) ∧ K e' := by
    intro hw ht
    obtain ⟨v, hr, hp⟩ := tkV_run hc hag ht
    obtain ⟨e', hag', hK⟩ := hag.put hp
    exact ⟨v, e', .inl ⟨hw, hr⟩, hag', hK⟩
  have no : Region.wanted o (yielded ops a.tmps) = false → put N e o.dst undef K → ∃ v e', YieldsIf c.P ops S o v a ∧ Ag N e' (a.put o.dst v) ∧ K e' := by
    intro hw hp
    obtain ⟨e', hag', hK⟩ := hag.put hp
    exact ⟨undef, e', .inr ⟨hw, rfl⟩, hag', hK⟩
  unfold tkGd at h
  split at h
  · rename_i hg
    exact yes (by simp [Region.wanted, hg]) h
  · rename_i j want hg
    split at h
    · rename_i d hj
      have hj' : (ops[j]?).bind (·.dst) = some d := by rw [← Array.getElem?_toList]; exact hj
      have hy : ∀ v, get e d = some v → yielded ops a.tmps j = (match v with | .bool b => some b | _ => none) := by
        intro v hv
        have := hag.2 d v hv
        unfold yielded
        rw [hj', Option.bind_some, this]
        cases v <;> rfl
      split at h
      · rename_i b hb
        have hyb := hy _ hb
        cases hbw : (b == want) with
        | true => rw [hbw] at h; exact yes (by simp only [Region.wanted, hg, hyb]; simpa using hbw) h
        | false => rw [hbw] at h; exact no (by simp only [Region.wanted, hg, hyb]; simpa using hbw) h
      · rename_i v hnb hv
        have hyb := hy _ hv
        exact no (by
          simp only [Region.wanted, hg, hyb]
          cases v <;> simp at hnb ⊢) h
      · exact h.elim
    · exact h.elim

/-! Orders -/

/-- A region's post that says nothing of ways out other than its end. -/
def Nrm (R : Act → World → Prop) : Exit → Act → World → Prop
  | .normal, a, w => R a w
  | _, _, _ => False

section
variable {P : Program} {r : Option Nat} {ops : Array Oper} {R : Act → World → Prop} {S : World → Prop} {nd : Nat → Bool}

/-- Whatever order is picked from here on; S holds behind those operations of which nd says so. -/
def AN (P : Program) (r : Option Nat) (ops : Array Oper) (R : Act → World → Prop) (S : World → Prop) (nd : Nat → Bool) : Nat → Array Bool → Act → World → Prop
  | 0, listed, a, w => Region.ready .any ops listed = [] ∧ R a w
  | fuel + 1, listed, a, w =>
    (Region.ready .any ops listed = [] → R a w) ∧
    ∀ i ∈ Region.ready .any ops listed, wpOpIn (Wd r) 0 P ops (Nrm R) i (fun a' w' => (nd i = true → S w') ∧ AN P r ops R S nd fuel (listed.setIfInBounds i true) a' w') a w

theorem AN.any : ∀ (fuel : Nat) (listed : Array Bool) (a : Act) (w : World), AN P r ops R S nd fuel listed a w → wpAnyIn (Wd r) 0 P .any ops (Nrm R) fuel listed a w
  | 0, _, _, _, h => h
  | fuel + 1, _, _, _, h => ⟨h.1, fun i hi => wpOpIn_mono (fun a' w' h' => AN.any fuel _ a' w' h'.2) (h.2 i hi)⟩

def noDefer (ops : Array Oper) : Bool := ops.all fun o => match o.op with | .defer _ => false | .select .. => false | _ => true

theorem noDefer_spec (h : noDefer ops = true) {j : Nat} {o : Oper} (ho : ops[j]? = some o) : (∀ cl, o.op ≠ .defer cl) ∧ ∀ cs b, o.op ≠ .select cs b := by
  have := Array.all_eq_true_iff_forall_mem.1 h o (Array.mem_of_getElem? ho)
  constructor
  · intro cl e; simp [e] at this
  · intro cs b e; simp [e] at this

theorem opIn_putIf {j : Nat} {oi oj : Oper} {v : Value} (hj : ops[j]? = some oj) (hap : oi.apart ops oj = true)
    (hsi : ∀ cs b, oi.op ≠ .select cs b) (hsj : ∀ cs b, oj.op ≠ .select cs b) (hdj : ∀ cl, oj.op ≠ .defer cl)
    {K : Act → World → Prop} {a : Act} {w : World} (hy : YieldsIf P ops S oi v a) (h : wpOpIn (Wd r) 0 P ops (Nrm R) j K (a.put oi.dst v) w) :
    wpOpIn (Wd r) 0 P ops (Nrm R) j (fun a' w' => YieldsIf P ops S oi v a' ∧ K (a'.put oi.dst v) w') a w := by
  obtain ⟨h1, h2, h3⟩ := Oper.apart_spec hap
  have keep : ∀ (a : Act), YieldsIf P ops S oi v a → ∀ u, YieldsIf P ops S oi v (a.put oj.dst u) := fun a hy u =>
    hy.of_same (execOp_put oi hsi a oj.dst u h3) (wanted_put oi a oj.dst u h3)
  have next : ∀ (a : Act) (u : Value) (w' : World), YieldsIf P ops S oi v a → K ((a.put oi.dst v).put oj.dst u) w' → YieldsIf P ops S oi v (a.put oj.dst u) ∧ K ((a.put oj.dst u).put oi.dst v) w' :=
    fun a u w' hy hk => ⟨keep a hy u, by rw [← Act.put_comm a v u h2]; exact hk⟩
  unfold wpOpIn at *
  simp only [hj] at *
  rw [wanted_put oj a oi.dst v h1] at h
  split
  · rename_i hw
    rw [if_pos hw] at h
    refine ⟨about_wide r, ?_⟩
    have h := h.2
    rw [Oper.semAt_eq _ _ _ hdj] at h ⊢
    rw [execOp_put oj hsj a oi.dst v h1] at h
    generalize (execOp a.eval oj).run P w = q at *
    cases q with
    | ok n w' =>
      cases n <;> simp only [Oper.uponIn] at h ⊢
      case value u => exact next a u w' hy h
      case skip => exact next a undef w' hy h
      case defer d =>
        have hy' : YieldsIf P ops S oi v { a with defers := d :: a.defers } := hy.of_same rfl rfl
        have := next { a with defers := d :: a.defers } undef w' hy'
        rw [← Act.put_defers] at this
        exact this h
      case enter f args =>
        refine ⟨h.1, h.2.mono fun e w'' he => ?_⟩
        cases e with
        | returned u => exact next a u w'' hy he
        | panicked c => exact he
        | outgrown => exact he
      case row row args => exact ⟨h.1, h.2.mono fun u w'' he => next a u w'' hy he⟩
      case round l f tmps as bd =>
        refine ⟨h.1, h.2.mono fun e w'' he => ?_⟩
        cases e with
        | returned u => exact next a u w'' hy he
        | panicked c => exact he
        | outgrown => exact he
    | halt x w' =>
      cases x <;> simp only [Oper.uponIn] at h ⊢ <;> exact h
  · rename_i hw
    rw [if_neg hw] at h
    exact ⟨about_wide r, next a undef w hy h.2⟩

theorem yieldsIf_op {i : Nat} {oi : Oper} {v : Value} {a : Act} {w : World} {K : Act → World → Prop} (hi : ops[i]? = some oi) (hnd : ∀ cl, oi.op ≠ .defer cl) (hy : YieldsIf P ops S oi v a) (hS : S w)
    (h : K (a.put oi.dst v) w) : wpOpIn (Wd r) 0 P ops (Nrm R) i K a w := by
  unfold wpOpIn
  simp only [hi]
  rcases hy with ⟨hw, hv⟩ | ⟨hw, rfl⟩
  · rw [if_pos hw]
    refine ⟨about_wide r, ?_⟩
    rw [Oper.semAt_eq _ _ _ hnd, hv w hS]
    exact h
  · rw [if_neg (by simp [hw])]
    exact ⟨about_wide r, h⟩

theorem AN.first {i : Nat} {oi : Oper} {v : Value} (hi : ops[i]? = some oi) (hno : noDefer ops = true)
    (hnd : ∀ j oj, ops[j]? = some oj → j ≠ i → nd j = false → ∃ e ∈ oj.after, Region.binds .any e = true ∧ e.on = i) :
    ∀ (fuel : Nat) (listed : Array Bool) (a : Act) (w : World),
      (∀ j oj, ops[j]? = some oj → j ≠ i → listed.getD j true = false → (∀ e ∈ oj.after, Region.binds .any e = true → e.on ≠ i) → oi.apart ops oj = true) →
      i ∈ Region.ready .any ops listed → YieldsIf P ops S oi v a → S w →
      AN P r ops R S nd fuel (listed.setIfInBounds i true) (a.put oi.dst v) w → AN P r ops R S nd (fuel + 1) listed a w := by
  have hdi := (noDefer_spec hno hi)
  intro fuel
  induction fuel with
  | zero =>
    intro listed a w _ hr hy hS H
    refine ⟨fun h => (by rw [h] at hr; cases hr), fun j hj => ?_⟩
    by_cases hji : j = i
    · subst hji; exact yieldsIf_op hi hdi.1 hy hS ⟨fun _ => hS, H⟩
    · have := ready_mono hj hji
      rw [H.1] at this
      cases this
  | succ fuel ih =>
    intro listed a w hfree hr hy hS H
    refine ⟨fun h => (by rw [h] at hr; cases hr), fun j hj => ?_⟩
    by_cases hji : j = i
    · subst hji; exact yieldsIf_op hi hdi.1 hy hS ⟨fun _ => hS, H⟩
    · have h1 := H.2 j (ready_mono hj hji)
      obtain ⟨hjun, oj, hoj, hall⟩ := mem_ready.1 hj
      have hnot : ∀ e ∈ oj.after, Region.binds .any e = true → e.on ≠ i := fun e he hb heq => by
        have h1 := hall e he hb
        have h0 := (mem_ready.1 hr).1
        rw [heq] at h1
        rcases Nat.lt_or_ge i listed.size with h' | h'
        · simp [h'] at h0 h1; rw [h0] at h1; cases h1
        · simp [Array.getElem?_eq_none h'] at h1
      have hneed : nd j = true := by
        cases hn : nd j with
        | true => rfl
        | false => obtain ⟨e, he, hb, ho⟩ := hnd j oj hoj hji hn; exact absurd ho (hnot e he hb)
      have hdj := noDefer_spec hno hoj
      have h2 := opIn_putIf (r := r) (R := R) hoj (hfree j oj hoj hji hjun hnot) hdi.2 hdj.2 hdj.1 hy h1
      have hfree' : ∀ k ok, ops[k]? = some ok → k ≠ i → (listed.setIfInBounds j true).getD k true = false →
          (∀ e ∈ ok.after, Region.binds .any e = true → e.on ≠ i) → oi.apart ops ok = true := fun k ok hk hki hun hno => by
        refine hfree k ok hk hki ?_ hno
        by_cases hjk : j = k
        · subst hjk; exact hjun
        · rw [getD_set_ne true hjk] at hun; exact hun
      refine wpOpIn_mono (fun a' w' h3 => ⟨h3.2.1, ih (listed.setIfInBounds j true) a' w' hfree' (ready_mono hr (Ne.symm hji)) h3.1 (h3.2.1 hneed) ?_⟩) h2
      rw [Array.setIfInBounds_comm _ _ hji]
      exact h3.2.2

end

/-! Plans -/

/-- A plan: 'take i': number i is taken first, for it only reads; 'alt need i p q': one of those that may come up now is i, and then it goes on by p; the others by q; 'need': S is shown behind it. -/
inductive Plan where
  | done
  | take (i : Nat) (p : Plan)
  | alt (need : Bool) (i : Nat) (p q : Plan)
  | stop

def Plan.one (need : Bool) (i : Nat) (p : Plan) : Plan := .alt need i p .stop
def Plan.takes (l : List Nat) (p : Plan) : Plan := l.foldr .take p

def Plan.taken : Plan → List Nat
  | .done | .stop => []
  | .take i p => i :: p.taken
  | .alt _ _ p q => p.taken ++ q.taken

def waitsAll (ops : Array Oper) (T : List Nat) (j : Nat) : Bool :=
  match ops[j]? with
  | some o => T.all fun i => Nat.beq i j || o.after.any fun e => Region.binds .any e && Nat.beq e.on i
  | none => false

def Plan.covers : Plan → List Nat
  | .alt _ i _ q => i :: q.covers
  | _ => []

/-- Is the plan one of this region? 'top': a new moment; 'live': S is known to hold. -/
def Plan.ok (ops : Array Oper) (T : List Nat) : Plan → Bool → Bool → Nat → Array Bool → Bool
  | .done, top, _, _, listed => top && (Region.ready .any ops listed).isEmpty
  | .stop, top, _, _, _ => !top
  | .take i p, top, live, fuel, listed => top && live && T.contains i && (match fuel with
    | 0 => false
    | fuel + 1 => (Region.ready .any ops listed).contains i && Region.free .any ops listed i && (ops[i]?).isSome && p.ok ops T true live fuel (listed.setIfInBounds i true))
  | .alt need i p q, top, live, fuel, listed => (!top || (!(Region.ready .any ops listed).isEmpty && (Region.ready .any ops listed).all ((Plan.alt need i p q).covers.contains ·))) && (match fuel with
    | 0 => false
    | fuel + 1 => (need || waitsAll ops T i) && p.ok ops T true need fuel (listed.setIfInBounds i true)) && q.ok ops T false live fuel listed

def wpP (c : Cx) (plain : Bool) (N : Nat) (ops : List Oper) (S : World → Prop) (K : Post) : Plan → Post
  | .done => K
  | .stop => fun _ _ _ => True
  | .take i p => fun e ds w => match ops[i]? with
    | some o => tkGd c N S ops o (fun e' => wpP c plain N ops S K p e' ds w) e
    | none => False
  | .alt need i p q => fun e ds w => (match ops[i]? with
    | some o => bif need then wpGd c plain N ops o (fun e' ds' w' => S w' ∧ wpP c plain N ops S K p e' ds' w') e ds w else wpGd c plain N ops o (wpP c plain N ops S K p) e ds w
    | none => False) ∧ wpP c plain N ops S K q e ds w

theorem waitsAll_spec {ops : Array Oper} {T : List Nat} {j : Nat} (h : waitsAll ops T j = true) {i : Nat} (hi : i ∈ T) (hne : j ≠ i) : ∀ oj, ops[j]? = some oj → ∃ e ∈ oj.after, Region.binds .any e = true ∧ e.on = i := by
  intro oj hj
  unfold waitsAll at h
  simp only [hj] at h
  have := List.all_eq_true.1 h i hi
  simp only [Bool.or_eq_true] at this
  rcases this with h' | h'
  · exact absurd (Nat.eq_of_beq_eq_true h').symm hne
  · obtain ⟨e, he, hb⟩ := Array.any_eq_true'.1 h'
    simp only [Bool.and_eq_true] at hb
    exact ⟨e, he, hb.1, Nat.eq_of_beq_eq_true hb.2⟩

theorem plan_run {c : Cx} (hc : c.Ok) {r : Option Nat} {N : Nat} {ops : Array Oper} {S : World → Prop} {K : Post} {T : List Nat} (hno : noDefer ops = true) : ∀ (p : Plan) (live : Bool) (fuel : Nat) (listed : Array Bool) (e : Env) (a : Act) (ds : List Deferred) (w : World),
    Ag N e a → a.defers = ds → (live = true → S w) → wpP c r.isNone N ops.toList S K p e ds w →
      (p.ok ops T true live fuel listed = true → AN c.P r ops (Lift N K) S (fun j => !waitsAll ops T j) fuel listed a w) ∧
      (∀ g, fuel = g + 1 → p.ok ops T false live fuel listed = true → ∀ i ∈ p.covers, wpOpIn (Wd r) 0 c.P ops (Nrm (Lift N K)) i
        (fun a' w' => ((fun j => !waitsAll ops T j) i = true → S w') ∧ AN c.P r ops (Lift N K) S (fun j => !waitsAll ops T j) g (listed.setIfInBounds i true) a' w') a w) := by
  intro p
  induction p with
  | done =>
    intro live fuel listed e a ds w hag hd hS h
    refine ⟨fun hok => ?_, fun g _ hok => ?_⟩
    · simp only [Plan.ok, Bool.true_and, List.isEmpty_iff] at hok
      cases fuel with
      | zero => exact ⟨hok, e, ds, hag, hd, h⟩
      | succ fuel => exact ⟨fun _ => ⟨e, ds, hag, hd, h⟩, by rw [hok]; simp⟩
    · simp [Plan.ok] at hok
  | stop =>
    intro live fuel listed e a ds w hag hd hS h
    refine ⟨fun hok => ?_, fun g _ hok i hi => ?_⟩
    · simp [Plan.ok] at hok
    · simp [Plan.covers] at hi
  | take i p ih =>
    intro live fuel listed e a ds w hag hd hS h
    refine ⟨fun hok => ?_, fun g _ hok => ?_⟩
    · cases fuel with
      | zero => simp [Plan.ok] at hok
      | succ fuel =>
        simp only [Plan.ok, Bool.true_and, Bool.and_eq_true] at hok
        obtain ⟨⟨hlive, hT⟩, ⟨⟨hr, hf⟩, hsome⟩, hok⟩ := hok
        obtain ⟨oi, hi⟩ := Option.isSome_iff_exists.1 hsome
        have hi' : ops.toList[i]? = some oi := by rw [Array.getElem?_toList]; exact hi
        simp only [wpP, hi'] at h
        obtain ⟨v, e', hy, hag', hK⟩ := tkGd_run hc hag h
        have hd' : (a.put oi.dst v).defers = ds := by cases oi.dst <;> simpa [Act.put] using hd
        have hT' : i ∈ T := by simpa using hT
        refine AN.first hi hno (fun j oj hj hne hnd => ?_) fuel listed a w (Region.free_spec hi hf) (by simpa using hr) hy (hS hlive)
          ((ih live fuel (listed.setIfInBounds i true) e' _ ds w hag' hd' hS hK).1 hok)
        simp only [Bool.not_eq_false'] at hnd
        exact waitsAll_spec hnd hT' hne oj hj
    · simp [Plan.ok] at hok
  | alt need i p q ihp ihq =>
    intro live fuel listed e a ds w hag hd hS h
    simp only [wpP] at h
    obtain ⟨h1, h2⟩ := h
    have step : ∀ g, fuel = g + 1 → ((need || waitsAll ops T i) && p.ok ops T true need g (listed.setIfInBounds i true)) = true →
        wpOpIn (Wd r) 0 c.P ops (Nrm (Lift N K)) i (fun a' w' => ((fun j => !waitsAll ops T j) i = true → S w') ∧ AN c.P r ops (Lift N K) S (fun j => !waitsAll ops T j) g (listed.setIfInBounds i true) a' w') a w := by
      intro g hg hok
      simp only [Bool.and_eq_true] at hok
      obtain ⟨hneed, hok⟩ := hok
      split at h1
      · rename_i o ho
        have hi : ops[i]? = some o := by rw [← Array.getElem?_toList]; exact ho
        have fin : ∀ (K' : Post), (∀ e' ds' w', K' e' ds' w' → (need = true → S w') ∧ wpP c r.isNone N ops.toList S K p e' ds' w') → wpGd c r.isNone N ops.toList o K' e ds w →
            wpOpIn (Wd r) 0 c.P ops (Nrm (Lift N K)) i (fun a' w' => ((fun j => !waitsAll ops T j) i = true → S w') ∧ AN c.P r ops (Lift N K) S (fun j => !waitsAll ops T j) g (listed.setIfInBounds i true) a' w') a w := by
          intro K' hK' hw
          have hrun := wpGd_run hc (r := r) (n := 0) (Q := Nrm (Lift N K)) hag hd hw
          have hbase : wpOpIn (Wd r) 0 c.P ops (Nrm (Lift N K)) i (Lift N K') a w := by
            unfold wpOpIn
            rw [hi]
            exact hrun
          refine wpOpIn_mono (fun a' w' h' => ?_) hbase
          obtain ⟨e', ds', hag', hd', hk⟩ := h'
          obtain ⟨hs, hp⟩ := hK' e' ds' w' hk
          refine ⟨fun hn => ?_, (ihp need g (listed.setIfInBounds i true) e' a' ds' w' hag' hd' hs hp).1 hok⟩
          simp only [Bool.not_eq_true'] at hn
          rw [hn] at hneed
          exact hs (by simpa using hneed)
        cases need with
        | true => exact fin _ (fun e' ds' w' hk => ⟨fun _ => hk.1, hk.2⟩) h1
        | false => exact fin _ (fun e' ds' w' hk => ⟨fun hf => by simp at hf, hk⟩) h1
      · exact h1.elim
    have all : ∀ g, fuel = g + 1 → ((need || waitsAll ops T i) && p.ok ops T true need g (listed.setIfInBounds i true)) = true → q.ok ops T false live fuel listed = true → ∀ k ∈ (Plan.alt need i p q).covers,
        wpOpIn (Wd r) 0 c.P ops (Nrm (Lift N K)) k (fun a' w' => ((fun j => !waitsAll ops T j) k = true → S w') ∧ AN c.P r ops (Lift N K) S (fun j => !waitsAll ops T j) g (listed.setIfInBounds k true) a' w') a w := by
      intro g hg hp hq k hk
      simp only [Plan.covers, List.mem_cons] at hk
      rcases hk with rfl | hk
      · exact step g hg hp
      · exact (ihq live fuel listed e a ds w hag hd hS h2).2 g hg hq k hk
    refine ⟨fun hok => ?_, fun g hg hok k hk => ?_⟩
    · cases fuel with
      | zero => simp [Plan.ok] at hok
      | succ fuel =>
        simp only [Plan.ok, Bool.not_true, Bool.false_or, Bool.and_eq_true] at hok
        obtain ⟨⟨⟨hne, hcov⟩, hp⟩, hq⟩ := hok
        refine ⟨fun h0 => by rw [h0] at hne; simp at hne, fun k hk => ?_⟩
        have := List.all_eq_true.1 hcov k hk
        exact all fuel rfl (by simpa using hp) hq k (by simpa using this)
    · subst hg
      simp only [Plan.ok, Bool.not_false, Bool.true_or, Bool.true_and, Bool.and_eq_true] at hok
      obtain ⟨hp, hq⟩ := hok
      exact all g rfl (by simpa using hp) hq k hk

/-- w' is w after the draw. -/
structure Drew (w w' : World) : Prop where
  heap : w'.heap = w.heap
  tape : w'.tape = w.tape
  os : w'.os = w.os
  out : w'.output = w.output

theorem Drew.tr {w w' : World} (h : Drew w w') : Tr [] w w' := ⟨by rw [h.heap]; exact Nat.le_refl _, fun b _ _ => by rw [h.heap], h.tape, h.os, h.out⟩
theorem Drew.blk {w w' : World} (h : Drew w w') {b : Nat} {l : List Value} {T : Nat} (hb : Blk w b l T) : Blk w' b l T := by unfold Blk; rw [h.heap]; exact hb

def planOk (ops : List Oper) (p : Plan) : Bool := noDefer ops.toArray && p.ok ops.toArray p.taken true true ops.length (Array.replicate ops.length false)

/-- A region that draws its order, by a plan; X: the blocks of w that an operation of the region may write before all that is taken has come up. -/
theorem draw_rule {c : Cx} (hc : c.Ok) {r : Option Nat} {N id : Nat} {ops : List Oper} {Q : PostX} {e : Env} {ds : List Deferred} {w : World} (X : List Nat) (p : Plan) (hok : planOk ops p = true)
    (h : ∀ w1, Drew w w1 → wpP c r.isNone N ops (Tr X w) (Q .normal) p e ds w1) : G c r N (.region id ops.toArray true) Q e ds w := by
  refine ⟨fun a hag hd => ?_⟩
  simp only [planOk, Bool.and_eq_true] at hok
  have hdr : Drew w { w with drawn := w.drawn + 1 } := ⟨rfl, rfl, rfl, rfl⟩
  have hA := (plan_run hc (r := r) (N := N) (ops := ops.toArray) (S := Tr X w) (K := Q .normal) (T := p.taken) hok.1 p true ops.length (Array.replicate ops.length false) e a ds { w with drawn := w.drawn + 1 } hag hd
    (fun _ => hdr.tr.of_ext) (by simpa using h _ hdr)).1 hok.2
  have hany := AN.any _ _ _ _ hA
  have hreg : (Code.region id ops.toArray true).wpIn (Wd r) 0 c.P (Nrm (Lift N (Q .normal))) a w := wpIn_region_any hc.mixed (by simpa using hany)
  refine wpIn_mono hreg fun ex a' w' h' => ?_
  cases ex with
  | normal => exact h'
  | _ => exact h'.elim

end Go.E
