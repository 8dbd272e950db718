/- The calculus E, part L: equality of arrays and structs of integers. -/
import Derived.Test.YtlfolinjajjgjaaDoorEF
import Derived.ChangeKeysEq
namespace Go.E

def flatFs (f : Nat → Option Nat) : List Field → Nat → Option Nat
  | [], o => some o
  | g :: r, o => match f g.type with
    | some m => bif g.name != "_" && Nat.beq g.offset o then flatFs f r (o + m) else none
    | none => none

/-- How many integers a type consists of. -/
def flatN (P : Program) : Nat → Nat → Option Nat
  | 0, _ => none
  | d + 1, t => match P.info? t, P.underlying t with
    | some i, some (.int .i64) => bif Nat.beq i.size 1 then some 1 else none
    | some i, some (.array n e) => match flatN P d e with
      | some m => bif Nat.beq i.size (n * m) then some (n * m) else none
      | none => none
    | some i, some (.struct fs) => match flatFs (flatN P d) fs.toList 0 with
      | some m => bif !P.stoodInHeld t && Nat.beq i.size m then some m else none
      | none => none
    | _, _ => none

def i64s (xs : List Int) : List Value := xs.map fun x => .int .i64 x
theorem i64s_len (xs : List Int) : (i64s xs).length = xs.length := by simp [i64s]

def vOf (P : Program) (t : Nat) (xs : List Int) : Value := match P.underlying t with
  | some (.int _) => .int .i64 (xs.headD 0)
  | _ => .agg (i64s xs).toArray

def notInt (P : Program) (t : Nat) : Bool := match P.underlying t with
  | some (.int _) => false
  | _ => true

section
variable {P : Program}

theorem flatN_info {d t m : Nat} (h : flatN P d t = some m) : ∃ i, P.info? t = some i ∧ i.size = m := by
  cases d with
  | zero => cases h
  | succ d =>
    unfold flatN at h
    split at h
    · rename_i i hi _
      cases hb : Nat.beq i.size 1 with
      | false => simp [hb] at h
      | true => simp [hb] at h; exact ⟨i, hi, by rw [Nat.eq_of_beq_eq_true hb, h]⟩
    · rename_i i n e hi _
      split at h
      · rename_i q _
        cases hb : Nat.beq i.size (n * q) with
        | false => simp [hb] at h
        | true => simp [hb] at h; exact ⟨i, hi, by rw [Nat.eq_of_beq_eq_true hb, h]⟩
      · cases h
    · rename_i i fs hi _
      split at h
      · rename_i q _
        cases hb : (!P.stoodInHeld t && Nat.beq i.size q) with
        | false => simp [hb] at h
        | true =>
          simp [hb] at h
          simp only [Bool.and_eq_true] at hb
          exact ⟨i, hi, by rw [Nat.eq_of_beq_eq_true hb.2, h]⟩
      · cases h
    · cases h

theorem flatN_kind {d t m : Nat} (h : flatN P d t = some m) : (P.underlying t = some (.int .i64) ∧ m = 1) ∨ (∃ n e, P.underlying t = some (.array n e)) ∨ (∃ fs, P.underlying t = some (.struct fs)) := by
  cases d with
  | zero => cases h
  | succ d =>
    unfold flatN at h
    split at h
    · rename_i i _ hu
      cases hb : Nat.beq i.size 1 with
      | false => simp [hb] at h
      | true => simp [hb] at h; exact .inl ⟨hu, h.symm⟩
    · rename_i hu; exact .inr (.inl ⟨_, _, hu⟩)
    · rename_i hu; exact .inr (.inr ⟨_, hu⟩)
    · cases h

theorem part_flat {d e m : Nat} (h : flatN P d e = some m) {xs : List Int} {off : Nat} (ho : off + m ≤ xs.length) (w : World) : (part e (i64s xs).toArray off).run P w = .ok (vOf P e ((xs.drop off).take m)) w := by
  obtain ⟨i, hi, hs⟩ := flatN_info h
  have hsz : (sizeOf e).run P w = .ok m w := by simp [sizeOf, typeInfo, hi, hs]
  have hex : ((i64s xs).toArray.extract off (off + m)) = (i64s ((xs.drop off).take m)).toArray := by
    apply Array.ext'
    rw [Array.toList_extract]
    simp [i64s, List.extract, List.map_take, List.map_drop]
  rcases flatN_kind h with ⟨hu, rfl⟩ | ⟨n, e', hu⟩ | ⟨fs, hu⟩
  · obtain ⟨x, hx⟩ : ∃ x, xs[off]? = some x := ⟨_, List.getElem?_eq_getElem (by omega)⟩
    have hget : (i64s xs).toArray[off]? = some (.int .i64 x) := by simp [i64s, hx]
    have hh : ((xs.drop off).take 1).headD 0 = x := by
      rw [List.drop_eq_getElem_cons (by omega)]
      have := (List.getElem?_eq_some_iff.1 hx).2
      simp [this]
    simp only [part, isAgg, Sem.run_bind, run_underlying hu, Result.andThen_ok, Sem.run_pure, Bool.false_eq_true, if_false, hget, vOf, hu, hh]
  · simp only [part, isAgg, Sem.run_bind, run_underlying hu, Result.andThen_ok, Sem.run_pure, if_true, hsz, hex, vOf, hu]
  · simp only [part, isAgg, Sem.run_bind, run_underlying hu, Result.andThen_ok, Sem.run_pure, if_true, hsz, hex, vOf, hu]

theorem take_drop_eq {xs ys : List Int} {o m : Nat} : (xs.drop o = ys.drop o) ↔ ((xs.drop o).take m = (ys.drop o).take m ∧ xs.drop (o + m) = ys.drop (o + m)) := by
  constructor
  · intro h
    have h2 := congrArg (List.drop m) h
    rw [List.drop_drop, List.drop_drop] at h2
    exact ⟨by rw [h], h2⟩
  · intro ⟨h1, h2⟩
    rw [← List.take_append_drop m (xs.drop o), ← List.take_append_drop m (ys.drop o), h1, List.drop_drop, List.drop_drop, h2]

/-- Equality. -/
theorem equalIn_flat : ∀ (d : Nat) (t m : Nat), flatN P d t = some m → ∀ (k : Nat) (xs ys : List Int) (w : World), xs.length = m → ys.length = m → (Op.equalIn (k + d) t (vOf P t xs) (vOf P t ys)).run P w = .ok (decide (xs = ys)) w
  | 0, _, _, h => by cases h
  | d + 1, t, m, h => by
    intro k xs ys w hx hy
    have ih := equalIn_flat d
    have hinfo := flatN_info h
    unfold flatN at h
    split at h
    · rename_i i hi hu
      cases hb : Nat.beq i.size 1 with
      | false => simp [hb] at h
      | true =>
        simp [hb] at h
        subst h
        match xs, ys, hx, hy with
        | [a], [b], _, _ =>
          simp only [vOf, hu, List.headD_cons]
          rw [show k + (d + 1) = (k + d) + 1 from rfl, run_equalIn_int w (k + d) t .i64 .i64 a b hu]
          congr 1
          by_cases hab : a = b <;> simp [hab]
    · rename_i i n e hi hu
      split at h
      · rename_i q hq
        cases hb : Nat.beq i.size (n * q) with
        | false => simp [hb] at h
        | true =>
          simp [hb] at h
          subst h
          obtain ⟨j, hj, hjs⟩ := flatN_info hq
          have hco : P.cellsOf e = q := by simp [Program.cellsOf, hj, hjs]
          simp only [vOf, hu]
          rw [show k + (d + 1) = (k + d) + 1 from rfl, run_equalIn_array w (k + d) _ _ hu hj, hco]
          have key : ∀ (c s : Nat), s + c = n → (Op.eqItems (k + d) e q (i64s xs).toArray (i64s ys).toArray (List.range' s c)).run P w = .ok (decide (xs.drop (s * q) = ys.drop (s * q))) w := by
            intro c
            induction c with
            | zero =>
              intro s hs
              have : s = n := by omega
              subst this
              rw [List.drop_of_length_le (by omega), List.drop_of_length_le (by omega)]
              simp [Op.eqItems]
            | succ c ihc =>
              intro s hs
              have hle : s * q + q ≤ n * q := by
                have := Nat.mul_le_mul_right q (show s + 1 ≤ n by omega)
                rw [Nat.add_mul] at this; omega
              rw [List.range'_succ]
              simp only [Op.eqItems, Sem.run_bind, part_flat hq (show s * q + q ≤ xs.length by omega), part_flat hq (show s * q + q ≤ ys.length by omega), Result.andThen_ok,
                ih e q hq k ((xs.drop (s * q)).take q) ((ys.drop (s * q)).take q) w (by simp; omega) (by simp; omega)]
              have htd := take_drop_eq (xs := xs) (ys := ys) (o := s * q) (m := q)
              by_cases h1 : (xs.drop (s * q)).take q = (ys.drop (s * q)).take q
              · rw [decide_eq_true h1]
                simp only [Bool.not_true, Bool.false_eq_true, if_false]
                rw [ihc (s + 1) (by omega), show (s + 1) * q = s * q + q by rw [Nat.add_mul]; omega]
                congr 1
                rw [decide_eq_decide, htd]
                simp [h1]
              · rw [decide_eq_false h1]
                simp only [Bool.not_false, if_true, Sem.run_pure]
                congr 1
                symm
                rw [decide_eq_false_iff_not, htd]
                exact fun hh => h1 hh.1
          have := key n 0 (by omega)
          rw [List.range_eq_range']
          simpa using this
      · cases h
    · rename_i i fs hi hu
      split at h
      · rename_i q hq
        cases hb : (!P.stoodInHeld t && Nat.beq i.size q) with
        | false => simp [hb] at h
        | true =>
          simp [hb] at h
          subst h
          simp only [Bool.and_eq_true, Bool.not_eq_true'] at hb
          have hfo : P.fieldsOf t = fs := by simp [Program.fieldsOf, hu]
          simp only [vOf, hu]
          rw [show k + (d + 1) = (k + d) + 1 from rfl, run_equalIn_struct w (k + d) t _ _ (by rw [hfo]; exact hu) hb.1, hfo]
          have key : ∀ (gs : List Field) (o : Nat), flatFs (flatN P d) gs o = some q → (Op.eqFields (k + d) (i64s xs).toArray (i64s ys).toArray gs).run P w = .ok (decide (xs.drop o = ys.drop o)) w ∧ o ≤ q := by
            intro gs
            induction gs with
            | nil =>
              intro o ho
              simp only [flatFs, Option.some.injEq] at ho
              subst ho
              rw [List.drop_of_length_le (by omega), List.drop_of_length_le (by omega)]
              exact ⟨by simp [Op.eqFields], Nat.le_refl _⟩
            | cons g r ihg =>
              intro o ho
              unfold flatFs at ho
              split at ho
              · rename_i m hm
                cases hb2 : (g.name != "_" && Nat.beq g.offset o) with
                | false => simp [hb2] at ho
                | true =>
                  simp only [hb2, cond_true] at ho
                  simp only [Bool.and_eq_true, bne_iff_ne, ne_eq] at hb2
                  have hof : g.offset = o := Nat.eq_of_beq_eq_true hb2.2
                  obtain ⟨h1, hle⟩ := ihg (o + m) ho
                  refine ⟨?_, by omega⟩
                  simp only [Op.eqFields, if_pos hb2.1, Sem.run_ite, Sem.run_bind, hof, part_flat hm (show o + m ≤ xs.length by omega), part_flat hm (show o + m ≤ ys.length by omega), Result.andThen_ok,
                    ih g.type m hm k ((xs.drop o).take m) ((ys.drop o).take m) w (by simp; omega) (by simp; omega)]
                  have htd := take_drop_eq (xs := xs) (ys := ys) (o := o) (m := m)
                  by_cases h2 : (xs.drop o).take m = (ys.drop o).take m
                  · rw [decide_eq_true h2]
                    simp only [Bool.not_true, Bool.false_eq_true, if_false]
                    rw [h1]
                    congr 1
                    rw [decide_eq_decide, htd]
                    simp [h2]
                  · rw [decide_eq_false h2]
                    simp only [Bool.not_false, if_true, Sem.run_pure]
                    congr 1
                    symm
                    rw [decide_eq_false_iff_not, htd]
                    exact fun hh => h2 hh.1
              · cases ho
          have := (key fs.toList 0 hq).1
          simpa using this
      · cases h
    · cases h

theorem eql_flat {t m d : Nat} (hd : d ≤ 10000) (hf : flatN P d t = some m) (hw : notInt P t = true) (hg : P.eqGuardType P.depth t = false) (x y : Operand) {cx cy : List Value} {xs ys : List Int} (hcx : cx = i64s xs) (hcy : cy = i64s ys)
    (hx : xs.length = m) (hy : ys.length = m) (w : World) {K : Value → World → Prop} (hK : K (.bool (decide (xs = ys))) w) : RunV P (do eqGuard .eql t x y (.agg cx.toArray) (.agg cy.toArray); binOp .eql t (.agg cx.toArray) (.agg cy.toArray)) w K := by
  subst hcx; subst hcy
  have hv : ∀ zs, vOf P t zs = .agg (i64s zs).toArray := fun zs => by
    unfold vOf
    split
    · rename_i hu; unfold notInt at hw; rw [hu] at hw; cases hw
    · rfl
  have h := equalIn_flat d t m hf (10000 - d) xs ys w hx hy
  rw [hv, hv, show 10000 - d + d = 10000 by omega] at h
  exact ⟨_, w, by rw [Sem.run_bind, run_eqGuard_agg w .eql t x y _ _ hg, Result.andThen_ok, run_eql_struct, h]; rfl, hK⟩

theorem neq_flat {t m d : Nat} (hd : d ≤ 10000) (hf : flatN P d t = some m) (hw : notInt P t = true) (hg : P.eqGuardType P.depth t = false) (x y : Operand) {cx cy : List Value} {xs ys : List Int} (hcx : cx = i64s xs) (hcy : cy = i64s ys)
    (hx : xs.length = m) (hy : ys.length = m) (w : World) {K : Value → World → Prop} (hK : K (.bool (!decide (xs = ys))) w) : RunV P (do eqGuard .neq t x y (.agg cx.toArray) (.agg cy.toArray); binOp .neq t (.agg cx.toArray) (.agg cy.toArray)) w K := by
  subst hcx; subst hcy
  have hv : ∀ zs, vOf P t zs = .agg (i64s zs).toArray := fun zs => by
    unfold vOf
    split
    · rename_i hu; unfold notInt at hw; rw [hu] at hw; cases hw
    · rfl
  have h := equalIn_flat d t m hf (10000 - d) xs ys w hx hy
  rw [hv, hv, show 10000 - d + d = 10000 by omega] at h
  exact ⟨_, w, by rw [Sem.run_bind, run_eqGuard_agg w .neq t x y _ _ hg, Result.andThen_ok, run_neq_struct, h]; rfl, hK⟩

end

end Go.E
