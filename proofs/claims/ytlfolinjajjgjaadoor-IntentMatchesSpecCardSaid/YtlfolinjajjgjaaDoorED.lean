/- The calculus E, part D: the operations that yield a value. -/
import Derived.Test.YtlfolinjajjgjaaDoorEC
namespace Go.E

def buildSliceK (c : Cx) (t n : Nat) (ps : List (Nat × Value)) (w : World) (K : Value → World → Prop) : Prop :=
  match tget c.tb t with
  | some x => match x.kd with
    | .slice e => match tget c.tb e with
      | some y => bif Nat.ble (n * y.size) 16777216 && !(Nat.beq y.size 0) then
          ∃ cs, fillL (fun i => some (i * y.size, y.size)) (List.replicate n y.zero).flatten ps = some cs ∧
            ∀ b w', New w b (.cells cs.toArray e) w' → K (.slice (some ⟨b, 0, none⟩) n n) w'
        else False
      | none => False
    | _ => False
  | none => False

def idx (i : Value) (n : Nat) (K : Nat → Prop) : Prop :=
  match i with
  | .int _ j => ∃ k : Nat, j = (k : Int) ∧ k < n ∧ K k
  | _ => False

def indexAddrK (c : Cx) (t : Nat) (x i : Value) (K : Value → Prop) : Prop :=
  match tget c.tb t with
  | some y => match y.kd with
    | .slice e => match tget c.tb e, x with
      | some z, .slice (some ⟨b, o, none⟩) len _ => idx i len fun k => K (.pointer (some ⟨b, o + k * z.size, none⟩))
      | _, _ => False
    | .array n e => match tget c.tb e, x with
      | some z, .pointer (some ⟨b, o, none⟩) => idx i n fun k => K (.pointer (some ⟨b, o + k * z.size, none⟩))
      | _, _ => False
    | _ => False
  | none => False

def indexK (c : Cx) (t : Nat) (x i : Value) (K : Value → Prop) : Prop :=
  match tget c.tb t with
  | some y => match y.kd with
    | .array n e => match tget c.tb e, x with
      | some z, .agg cs => bif z.agg then idx i n fun k => K (.agg ((cs.toList.drop (k * z.size)).take z.size).toArray)
          else idx i n fun k => ∃ v, cs.toList[k * z.size]? = some v ∧ K v
      | _, _ => False
    | .str => match x with
      | .string s => idx i s.size fun k => ∃ v, s.data.toList[k]? = some v ∧ K (.int .u8 v.toNat)
      | _ => False
    | _ => False
  | none => False

def fieldAddrK (c : Cx) (s : Nat) (x : Value) (f : Nat) (K : Value → Prop) : Prop :=
  match tget c.tb s with
  | some y => match y.kd, x with
    | .struct fs, .pointer (some ⟨b, o, none⟩) => match fs[f]? with
      | some (off, n) => bif Nat.beq n 0 then False else K (.pointer (some ⟨b, o + off, none⟩))
      | none => False
    | _, _ => False
  | none => False

def bound (v : Option Value) (d : Nat) (l : Nat) : Prop :=
  match v with
  | none => l = d
  | some (.int _ i) => i = (l : Int)
  | _ => False

def sadr (b o l sz cap : Nat) : Addr := if cap = l then ⟨b, o, none⟩ else ⟨b, o + l * sz, none⟩

def sliceK (c : Cx) (t : Nat) (x : Value) (lo hi : Option Value) (K : Value → Prop) : Prop :=
  match tget c.tb t with
  | some y => match y.kd with
    | .slice e => match tget c.tb e, x with
      | some z, .slice (some ⟨b, o, none⟩) len cap => ∃ l h, bound lo 0 l ∧ bound hi len h ∧ l ≤ h ∧ h ≤ cap ∧ K (.slice (some (sadr b o l z.size cap)) (h - l) (cap - l))
      | some _, .slice none len cap => ∃ l h, bound lo 0 l ∧ bound hi len h ∧ l ≤ h ∧ h ≤ cap ∧ K (.slice none (h - l) (cap - l))
      | _, _ => False
    | .array n e => match tget c.tb e, x with
      | some z, .pointer (some ⟨b, o, none⟩) => ∃ l h, bound lo 0 l ∧ bound hi n h ∧ l ≤ h ∧ h ≤ n ∧ K (.slice (some (sadr b o l z.size n)) (h - l) (n - l))
      | _, _ => False
    | _ => False
  | none => False

def convK (c : Cx) (s d : Nat) (x : Value) (w : World) (K : Value → World → Prop) : Prop :=
  match x with
  | .int _ n => match tget c.tb s, tget c.tb d with
    | some _, some y => match y.kd with
      | .int k => ∃ m, k.wrap n = m ∧ K (.int k m) w
      | _ => False
    | _, _ => False
  | v => RunV c.P (convert s d v) w K

def unK (P : Program) (op : UnOp) (x : Value) (w : World) (K : Value → World → Prop) : Prop :=
  match op, x with
  | .not, .bool b => K (.bool (!b)) w
  | .neg, .int k n => ∃ m, k.wrap (0 - n) = m ∧ K (.int k m) w
  | op, v => RunV P (Op.unary op v) w K

/-- make([]T, n, m) -/
def makeSliceK (c : Cx) (t : Nat) (l m : Value) (w : World) (K : Value → World → Prop) : Prop :=
  match tget c.tb t, l, m with
  | some x, .int _ i, .int _ j => match x.kd with
    | .slice e => match tget c.tb e with
      | some y => ∃ n k : Nat, i = (n : Int) ∧ j = (k : Int) ∧ n ≤ k ∧ (k * y.bytes ≤ 140737488355328 ∧ k ≤ 140737488355328 ∧ Nat.beq y.size 0 = false) ∧
          ∀ b w', New w b (.cells (List.replicate k y.zero).flatten.toArray e) w' → K (.slice (some ⟨b, 0, none⟩) n k) w'
      | none => False
    | _ => False
  | _, _, _ => False

def builtinS (b : Builtin) : Option (Array TypeId → TypeId → Array Value → Sem Value) :=
  match b with
  | .append => some Builtin.append_
  | .cap => some Builtin.cap_
  | .clear => some Builtin.clear_
  | .copy => some Builtin.copy_
  | .delete => some Builtin.delete_
  | .len => some Builtin.len_
  | .max => some Builtin.max_
  | .min => some Builtin.min_
  | _ => none

def isSlice : Option TI → Bool
  | some x => match x.kd with | .slice _ => true | _ => false
  | none => false

def builtinK (c : Cx) (b : Builtin) (ats : Array TypeId) (ty : TypeId) (vs : List Value) (w : World) (K : Value → World → Prop) : Prop :=
  match b, vs with
  | .len, [.slice _ n _] => bif isSlice (tget c.tb (ats.getD 0 0)) && Nat.beq ats.size 1 then K (.int .i64 n) w else False
  | b, vs => match builtinS b with
    | some s => RunV c.P (s ats ty vs.toArray) w K
    | none => False

def wpV (c : Cx) (o : Oper) (e : Env) (w : World) (K : Value → World → Prop) : Prop :=
  match o.op with
  | .move x | .assign x => match ev e x with
    | some v => K v w
    | none => False
  | .pick cnd a b => match ev e cnd with
    | some (.bool true) => (match ev e a, ev e b with | some v, some _ => K v w | _, _ => False)
    | some (.bool false) => (match ev e a, ev e b with | some _, some v => K v w | _, _ => False)
    | _ => False
  | .alloc t => match tget c.tb t with
    | some x => Mk w t x.zero K
    | none => False
  | .box t x => match ev e x with
    | some v => Mk w t (vcells v) K
    | none => False
  | .build t ps => match evParts e ps.toList with
    | some vs => buildK c t vs (fun v => K v w)
    | none => False
  | .buildSlice t n ps => match evParts e ps.toList with
    | some vs => buildSliceK c t n vs w K
    | none => False
  | .load t x => match ev e x with
    | some (.pointer (some ⟨b, o, none⟩)) => Ld c t w b o (fun v => K v w)
    | _ => False
  | .nilCheck x => match ev e x with
    | some (.pointer (some a)) => K (.pointer (some a)) w
    | some (.func (.func f) a b) => K (.func (.func f) a b) w
    | _ => False
  | .binOp op t x y _ => match ev e x, ev e y with
    | some a, some b => binK c.P op t x y a b w K
    | _, _ => False
  | .unOp op _ x => match ev e x with
    | some v => unK c.P op v w K
    | none => False
  | .convert s d x => match ev e x with
    | some v => convK c s d v w K
    | none => False
  | .makeFunc fn first cap => match evs e first.toList, evs e cap.toList with
    | some a, some b => K (.func fn a.toArray b.toArray) w
    | _, _ => False
  | .makeMap _ none => ∀ b w', New w b (.map #[] 0) w' → K (.map (some b)) w'
  | .makeSlice t l m => match ev e l, ev e m with
    | some a, some b => makeSliceK c t a b w K
    | _, _ => False
  | .slice t x lo hi none => match ev e x, lo.map (ev e), hi.map (ev e) with
    | some v, none, none => sliceK c t v none none (fun v => K v w)
    | some v, some (some l), none => sliceK c t v (some l) none (fun v => K v w)
    | some v, none, some (some h) => sliceK c t v none (some h) (fun v => K v w)
    | some v, some (some l), some (some h) => sliceK c t v (some l) (some h) (fun v => K v w)
    | _, _, _ => False
  | .fieldAddr s x f => match ev e x with
    | some v => fieldAddrK c s v f (fun v => K v w)
    | none => False
  | .field s x f => match ev e x with
    | some v => RunV c.P (Instr.field s v f) w K
    | none => False
  | .indexAddr t x i => match ev e x, ev e i with
    | some v, some j => indexAddrK c t v j (fun v => K v w)
    | _, _ => False
  | .index t x i => match ev e x, ev e i with
    | some v, some j => indexK c t v j (fun v => K v w)
    | _, _ => False
  | .lookup t x i ok => match ev e x, ev e i with
    | some v, some j => RunV c.P (Instr.lookup t v j ok) w K
    | _, _ => False
  | .range t x => match ev e x with
    | some v => RunV c.P (Instr.range t v) w K
    | none => False
  | .next it s => match ev e it with
    | some v => RunV c.P (Instr.next v s o.type) w K
    | none => False
  | .entry it => match ev e it with
    | some v => RunV c.P (Instr.entry v) w K
    | none => False
  | .extract x i => match ev e x with
    | some (.tuple vs) => (match vs.toList[i]? with | some v => K v w | none => False)
    | _ => False
  | .call cl => match cl.callee, evs e cl.args.toList with
    | .builtin b, some vs => builtinK c b cl.argTypes o.type vs w K
    | _, _ => False
  | _ => False

theorem flat_mod (z : List Value) (hz : z ≠ []) (n : Nat) : (Array.range (n * z.length)).map (fun i => z.toArray[i % z.toArray.size]!) = (List.replicate n z).flatten.toArray := by
  have hpos : 0 < z.length := List.length_pos_iff.2 hz
  apply Array.ext_getElem?
  intro i
  induction n generalizing i with
  | zero => simp
  | succ n ih =>
    simp only [Array.getElem?_map, List.getElem?_toArray] at ih ⊢
    rw [List.replicate_succ, List.flatten_cons]
    by_cases hi : i < z.length
    · rw [List.getElem?_append_left hi]
      have : i < (n + 1) * z.length := by
        have := Nat.mul_le_mul_right z.length (Nat.succ_le_succ (Nat.zero_le n))
        simp at this ⊢; omega
      simp [this, Nat.mod_eq_of_lt hi, hi]
    · rw [List.getElem?_append_right (by omega), ← ih (i - z.length)]
      have hmod : i % z.length = (i - z.length) % z.length := by
        rw [Nat.mod_eq_sub_mod (by omega)]
      have e : (n + 1) * z.length = n * z.length + z.length := by rw [Nat.add_mul, Nat.one_mul]
      by_cases h2 : i < (n + 1) * z.length
      · have h3 : i - z.length < n * z.length := by omega
        simp [h2, h3, hmod]
      · have h3 : ¬ (i - z.length < n * z.length) := by omega
        simp [h2, h3]

section
variable {c : Cx} (hc : c.Ok)
include hc

theorem build_run {t : Nat} {ps : List (Nat × Value)} {K : Value → Prop} (h : buildK c t ps K) : PureV c.P (Instr.build t ps.toArray) K := by
  unfold buildK at h
  cases ht : tget c.tb t with
  | none => simp [ht] at h
  | some x =>
    simp only [ht] at h
    obtain ⟨z, hz, hzl, _⟩ := run_zero hc ht
    have hzc : z.cells = x.zero.toArray := by rw [← hzl]
    cases hk : x.kd with
    | struct fs =>
      simp only [hk] at h
      obtain ⟨cs, hf, hK⟩ := h
      obtain ⟨gs, hg, hfs, hin⟩ := run_under_struct hc ht hk
      have hm := fun w => mapM_sizes (P := c.P) w gs.toList hin
      have hfill := fill_eq _ _ _ _ hf
      refine ⟨_, fun w => ?_, hK⟩
      simp only [Instr.build, Sem.run_bind, hz, hg, Result.andThen_ok, Array.mapM_eq_mapM_toList, Sem.run_map, hm, hzc]
      have e : (fun i : Nat => (gs.toList.map fun f => (f.offset, c.P.cellsOf f.type)).toArray[i]?) = (fun i : Nat => fs[i]?) := by
        funext i; rw [hfs]; simp
      rw [e, hfill]
      rfl
    | array n e =>
      simp only [hk] at h
      cases he : tget c.tb e with
      | none => simp [he] at h
      | some y =>
        simp only [he] at h
        obtain ⟨cs, hf, hK⟩ := h
        have hfill := fill_eq _ _ _ _ hf
        refine ⟨_, fun w => ?_, hK⟩
        simp only [Instr.build, Sem.run_bind, hz, run_under_array hc ht hk, Result.andThen_ok, run_sizeOf hc he, hzc]
        rw [hfill]
        rfl
    | _ => simp [hk] at h

theorem buildSlice_run {t n : Nat} {ps : List (Nat × Value)} {w : World} {K : Value → World → Prop} (h : buildSliceK c t n ps w K) : RunV c.P (Instr.buildSlice t n ps.toArray) w K := by
  unfold buildSliceK at h
  cases ht : tget c.tb t with
  | none => simp [ht] at h
  | some x =>
    simp only [ht] at h
    cases hk : x.kd with
    | slice e =>
      simp only [hk] at h
      cases he : tget c.tb e with
      | none => simp [he] at h
      | some y =>
        simp only [he] at h
        cases hb : (Nat.ble (n * y.size) 16777216 && !(Nat.beq y.size 0)) with
        | false => simp [hb] at h
        | true =>
          simp only [hb, cond_true] at h
          simp only [Bool.and_eq_true, Nat.ble_eq, Bool.not_eq_true', ] at hb
          obtain ⟨hb1, hb2⟩ := hb
          have hy0 : y.size ≠ 0 := fun e => by rw [e] at hb2; simp at hb2
          obtain ⟨cs, hf, hK⟩ := h
          obtain ⟨z, hz, hzl, hzz⟩ := run_zero hc he
          have hzc : z.cells = y.zero.toArray := by rw [← hzl]
          have hzne : y.zero ≠ [] := fun e => by rw [e] at hzz; simp at hzz; omega
          have hfill := fill_eq _ _ _ _ hf
          have hfl := flat_mod y.zero hzne n
          rw [hzz] at hfl
          refine ⟨_, { w with heap := w.heap.push (.cells cs.toArray e) }, ?_, hK _ _ ⟨rfl, rfl⟩⟩
          simp only [Instr.buildSlice, Sem.run_bind, run_under_slice hc ht hk, Result.andThen_ok, run_sizeOf hc he]
          rw [if_neg (by omega)]
          by_cases hn : n * y.size = 0
          · have hn0 : n = 0 := by rcases Nat.mul_eq_zero.1 hn with h | h; exact h; exact absurd h hy0
            subst hn0
            simp only [List.replicate_zero, List.flatten_nil] at hfill
            have e0 : ∀ g : Nat → Value, (Array.range 0).map g = ([] : List Value).toArray := fun _ => by simp
            simp only [hn, if_true, pure_bind, e0, hfill]
            simp [newRow, newObj, Sem.run]
          · rw [if_neg hn]
            simp only [Sem.run_bind, hz, Result.andThen_ok, Sem.run_pure, hzc, hfl]
            rw [hfill]
            simp [newRow, newObj, Sem.run]
    | _ => simp [hk] at h

omit hc in
theorem idx_run {i : Value} {n : Nat} {K : Nat → Prop} (h : idx i n K) : ∃ q j, ∃ k : Nat, i = .int q j ∧ j = (k : Int) ∧ k < n ∧ K k := by
  cases i with
  | int q j => obtain ⟨k, hj, hk, hK⟩ := h; exact ⟨q, j, k, rfl, hj, hk, hK⟩
  | _ => exact h.elim

theorem indexAddr_run {t : Nat} {x i : Value} {K : Value → Prop} (h : indexAddrK c t x i K) : PureV c.P (Instr.indexAt t x i) K := by
  unfold indexAddrK at h
  cases ht : tget c.tb t with
  | none => simp [ht] at h
  | some y =>
    simp only [ht] at h
    cases hk : y.kd with
    | slice e =>
      simp only [hk] at h
      split at h
      · rename_i z b o len cap hz
        obtain ⟨q, j, k, rfl, rfl, hlt, hK⟩ := idx_run h
        refine ⟨_, fun w => ?_, hK⟩
        simp [Instr.indexAt, asIntOf, run_under_slice hc ht hk, run_sizeOf hc hz, hlt, add_none]
      · exact h.elim
    | array n e =>
      simp only [hk] at h
      split at h
      · rename_i z b o hz
        obtain ⟨q, j, k, rfl, rfl, hlt, hK⟩ := idx_run h
        refine ⟨_, fun w => ?_, hK⟩
        simp [Instr.indexAt, asIntOf, run_under_array hc ht hk, run_sizeOf hc hz, hlt, add_none, Instr.sureAddr]
      · exact h.elim
    | _ => simp [hk] at h

theorem index_run {t : Nat} {x i : Value} {K : Value → Prop} (h : indexK c t x i K) : PureV c.P (Instr.index t x i) K := by
  unfold indexK at h
  cases ht : tget c.tb t with
  | none => simp [ht] at h
  | some y =>
    simp only [ht] at h
    cases hk : y.kd with
    | array n e =>
      simp only [hk] at h
      split at h
      · rename_i z cs hz
        cases hza : z.agg with
        | true =>
          simp only [hza, cond_true] at h
          obtain ⟨q, j, k, rfl, rfl, hlt, hK⟩ := idx_run h
          refine ⟨_, fun w => ?_, hK⟩
          have ea : cs.extract (k * z.size) (k * z.size + z.size) = ((cs.toList.drop (k * z.size)).take z.size).toArray := by
            apply Array.ext'
            simp [List.extract_eq_take_drop]
          simp [Instr.index, asIntOf, run_under_array hc ht hk, run_sizeOf hc hz, hlt, part, run_isAgg hc hz, hza, ea]
        | false =>
          simp only [hza, cond_false] at h
          obtain ⟨q, j, k, rfl, rfl, hlt, v, hv, hK⟩ := idx_run h
          refine ⟨_, fun w => ?_, hK⟩
          have hv' : cs[k * z.size]? = some v := by rw [← Array.getElem?_toList]; exact hv
          simp [Instr.index, asIntOf, run_under_array hc ht hk, run_sizeOf hc hz, hlt, part, run_isAgg hc hz, hza, hv']
      · exact h.elim
    | str =>
      simp only [hk] at h
      split at h
      · rename_i s
        obtain ⟨q, j, k, rfl, rfl, hlt, v, hv, hK⟩ := idx_run h
        refine ⟨_, fun w => ?_, hK⟩
        have hv' : s[(k : Int).toNat]? = some v := by
          have h0 : k < s.data.size := hlt
          rw [Array.getElem?_toList, Array.getElem?_eq_getElem h0] at hv
          have hlt' : k < s.size := hlt
          simp only [Int.toNat_natCast]
          rw [getElem?_pos s k hlt']
          exact hv
        have h0 : (0 : Int) ≤ (k : Int) := by omega
        simp only [Instr.index, asIntOf, Sem.run_bind, Sem.run_pure, Result.andThen_ok, run_under_str hc ht hk, if_pos h0, hv']
      · exact h.elim
    | _ => simp [hk] at h

theorem fieldAddr_run {s f : Nat} {x : Value} {K : Value → Prop} (h : fieldAddrK c s x f K) : PureV c.P (Instr.fieldAt s x f) K := by
  unfold fieldAddrK at h
  cases ht : tget c.tb s with
  | none => simp [ht] at h
  | some y =>
    simp only [ht] at h
    split at h
    · rename_i fs b o hk
      obtain ⟨gs, hg, hfs, hin⟩ := run_under_struct hc ht hk
      cases hf : fs[f]? with
      | none => simp [hf] at h
      | some p =>
        obtain ⟨off, n⟩ := p
        simp only [hf] at h
        cases hn : Nat.beq n 0 with
        | true => simp [hn] at h
        | false =>
          simp only [hn, cond_false] at h
          have hn0 : n ≠ 0 := fun e => by subst e; simp at hn
          rw [hfs] at hf
          simp only [List.getElem?_map, Option.map_eq_some_iff] at hf
          obtain ⟨g, hgf, hgp⟩ := hf
          obtain ⟨i, hi⟩ := hin g (List.mem_of_getElem? hgf)
          have hgf' : gs[f]? = some g := by rw [← Array.getElem?_toList]; exact hgf
          cases hgp
          refine ⟨_, fun w => ?_, h⟩
          have hsz : ∀ w, (sizeOf g.type).run c.P w = .ok (c.P.cellsOf g.type) w := fun w => by simp [sizeOf, typeInfo, hi, Program.cellsOf]
          simp [Instr.fieldAt, hg, hgf', Instr.sureAddr, fieldPlace, hsz, hn0, add_none]
    · exact h.elim

omit hc in
theorem bound_run {P : Program} {v : Option Value} {d l y : Nat} {cd : BoundsCode} {w : World} (h : bound v d l) (hl : l ≤ y) :
    (match v with | some v => Instr.sliceBound v y cd | none => pure d : Sem Nat).run P w = .ok l w := by
  cases v with
  | none => simp only [bound] at h; subst h; rfl
  | some v =>
    cases v with
    | int q i =>
      simp only [bound] at h
      subst h
      simp [Instr.sliceBound, asIntOf, hl]
    | _ => exact h.elim

omit hc in
theorem bounds_run {sl : Bool} {len cap l h : Nat} {lo hi : Option Value} {w : World} (h1 : bound lo 0 l) (h2 : bound hi len h) (h3 : l ≤ h) (h4 : h ≤ cap) :
    (Instr.sliceBounds sl len cap lo hi none).run c.P w = .ok (l, h, cap) w := by
  have a := bound_run (P := c.P) (y := cap) (cd := if sl then .sliceAcap else .sliceAlen) (w := w) h2 h4
  have b := bound_run (P := c.P) (y := h) (cd := .sliceB) (w := w) h1 h3
  unfold Instr.sliceBounds
  cases hi <;> cases lo <;> simp at a b <;> simp [a, b]

theorem slice_run {t : Nat} {x : Value} {lo hi : Option Value} {K : Value → Prop} (h : sliceK c t x lo hi K) :
    PureV c.P (Instr.sliceAt t x lo hi none) K := by
  unfold sliceK at h
  cases ht : tget c.tb t with
  | none => simp [ht] at h
  | some y =>
    simp only [ht] at h
    cases hk : y.kd with
    | slice e =>
      simp only [hk] at h
      split at h
      · rename_i z b o len cap hz
        obtain ⟨l, hh, h1, h2, h3, h4, hK⟩ := h
        refine ⟨_, fun w => ?_, hK⟩
        simp only [Instr.sliceAt, Sem.run_bind, run_under_slice hc ht hk, Result.andThen_ok, Instr.slice, bounds_run h1 h2 h3 h4, run_sizeOf hc hz]
        by_cases hcl : cap = l <;> simp [sadr, hcl, add_none]
      · rename_i z len cap hz
        obtain ⟨l, hh, h1, h2, h3, h4, hK⟩ := h
        refine ⟨_, fun w => ?_, hK⟩
        simp only [Instr.sliceAt, Sem.run_bind, run_under_slice hc ht hk, Result.andThen_ok, Instr.slice, bounds_run h1 h2 h3 h4, run_sizeOf hc hz]
        by_cases hcl : cap = l <;> simp [hcl]
      · exact h.elim
    | array n e =>
      simp only [hk] at h
      split at h
      · rename_i z b o hz
        obtain ⟨l, hh, h1, h2, h3, h4, hK⟩ := h
        refine ⟨_, fun w => ?_, hK⟩
        simp only [Instr.sliceAt, Sem.run_bind, run_under_array hc ht hk, Result.andThen_ok, Instr.sureAddr, Sem.run_pure, bounds_run h1 h2 h3 h4, run_sizeOf hc hz]
        by_cases hcl : n = l <;> simp [sadr, hcl, add_none]
      · exact h.elim
    | _ => simp [hk] at h

theorem conv_run {s d : Nat} {x : Value} {w : World} {K : Value → World → Prop} (h : convK c s d x w K) : RunV c.P (convert s d x) w K := by
  unfold convK at h
  split at h
  · rename_i q n
    split at h
    · rename_i a b ha hb
      split at h
      · rename_i k hk
        obtain ⟨m, rfl, hK⟩ := h
        obtain ⟨_, ds, _, hus, _⟩ := hc.info ha
        refine ⟨_, w, ?_, hK⟩
        have h2 := run_under_int hc hb hk w
        have h1 : (underlying s).run c.P w = .ok ds w := by simp [underlying, hus]
        simp [convert, h1, h2, Conv.intToInt]
      · exact h.elim
    · exact h.elim
  · exact h

omit hc in
theorem un_run {op : UnOp} {x : Value} {w : World} {K : Value → World → Prop} (h : unK c.P op x w K) : RunV c.P (Op.unary op x) w K := by
  unfold unK at h
  split at h
  · exact ⟨_, w, by simp [Op.unary], h⟩
  · obtain ⟨m, rfl, hK⟩ := h
    exact ⟨_, w, by simp [Op.unary, Op.intArith], hK⟩
  · exact h

end
end Go.E
