/- Part 6 of the proof: EL, A6, Q5, Q6, Q7, Q8 -/
import Derived.Test.YtlfolinjajjgjaaDoorZR40
import Derived.ChangeKeysEq
import Derived.Test.YtlfolinjajjgjaaDoorZR43
import Derived.Test.YtlfolinjajjgjaaDoorZR42

/- The calculus E, part L: equality of arrays and structs of integers. -/
namespace Go.E

def flatFs (f : Nat → Option Nat) : List Field → Nat → Option Nat
  | [], o => some o
  | g :: r, o => match f g.type with
    | some m => bif g.name != "_" && Nat.beq g.offset o then flatFs f r (o + m) else none
    | none => none

/-- How many integers a type consists of. -/
def flatN (P : Program) : Nat → Nat → Option Nat
  | 0, _ => none
  | d + 1, t => match P.info? t, P.underlying t with
    | some i, some (.int .i64) => bif Nat.beq i.size 1 then some 1 else none
    | some i, some (.array n e) => match flatN P d e with
      | some m => bif Nat.beq i.size (n * m) then some (n * m) else none
      | none => none
    | some i, some (.struct fs) => match flatFs (flatN P d) fs.toList 0 with
      | some m => bif !P.stoodInHeld t && Nat.beq i.size m then some m else none
      | none => none
    | _, _ => none

def i64s (xs : List Int) : List Value := xs.map fun x => .int .i64 x
theorem i64s_len (xs : List Int) : (i64s xs).length = xs.length := by simp [i64s]

def vOf (P : Program) (t : Nat) (xs : List Int) : Value := match P.underlying t with
  | some (.int _) => .int .i64 (xs.headD 0)
  | _ => .agg (i64s xs).toArray

def notInt (P : Program) (t : Nat) : Bool := match P.underlying t with
  | some (.int _) => false
  | _ => true

section
variable {P : Program}

theorem flatN_info {d t m : Nat} (h : flatN P d t = some m) : ∃ i, P.info? t = some i ∧ i.size = m := by
  cases d with
  | zero => cases h
  | succ d =>
    unfold flatN at h
    split at h
    · rename_i i hi _
      cases hb : Nat.beq i.size 1 with
      | false => simp [hb] at h
      | true => simp [hb] at h; exact ⟨i, hi, by rw [Nat.eq_of_beq_eq_true hb, h]⟩
    · rename_i i n e hi _
      split at h
      · rename_i q _
        cases hb : Nat.beq i.size (n * q) with
        | false => simp [hb] at h
        | true => simp [hb] at h; exact ⟨i, hi, by rw [Nat.eq_of_beq_eq_true hb, h]⟩
      · cases h
    · rename_i i fs hi _
      split at h
      · rename_i q _
        cases hb : (!P.stoodInHeld t && Nat.beq i.size q) with
        | false => simp [hb] at h
        | true =>
          simp [hb] at h
          simp only [Bool.and_eq_true] at hb
          exact ⟨i, hi, by rw [Nat.eq_of_beq_eq_true hb.2, h]⟩
      · cases h
    · cases h

theorem flatN_kind {d t m : Nat} (h : flatN P d t = some m) : (P.underlying t = some (.int .i64) ∧ m = 1) ∨ (∃ n e, P.underlying t = some (.array n e)) ∨ (∃ fs, P.underlying t = some (.struct fs)) := by
  cases d with
  | zero => cases h
  | succ d =>
    unfold flatN at h
    split at h
    · rename_i i _ hu
      cases hb : Nat.beq i.size 1 with
      | false => simp [hb] at h
      | true => simp [hb] at h; exact .inl ⟨hu, h.symm⟩
    · rename_i hu; exact .inr (.inl ⟨_, _, hu⟩)
    · rename_i hu; exact .inr (.inr ⟨_, hu⟩)
    · cases h

theorem part_flat {d e m : Nat} (h : flatN P d e = some m) {xs : List Int} {off : Nat} (ho : off + m ≤ xs.length) (w : World) : (part e (i64s xs).toArray off).run P w = .ok (vOf P e ((xs.drop off).take m)) w := by
  obtain ⟨i, hi, hs⟩ := flatN_info h
  have hsz : (sizeOf e).run P w = .ok m w := by simp [sizeOf, typeInfo, hi, hs]
  have hex : ((i64s xs).toArray.extract off (off + m)) = (i64s ((xs.drop off).take m)).toArray := by
    apply Array.ext'
    rw [Array.toList_extract]
    simp [i64s, List.extract, List.map_take, List.map_drop]
  rcases flatN_kind h with ⟨hu, rfl⟩ | ⟨n, e', hu⟩ | ⟨fs, hu⟩
  · obtain ⟨x, hx⟩ : ∃ x, xs[off]? = some x := ⟨_, List.getElem?_eq_getElem (by omega)⟩
    have hget : (i64s xs).toArray[off]? = some (.int .i64 x) := by simp [i64s, hx]
    have hh : ((xs.drop off).take 1).headD 0 = x := by
      rw [List.drop_eq_getElem_cons (by omega)]
      have := (List.getElem?_eq_some_iff.1 hx).2
      simp [this]
    simp only [part, isAgg, Sem.run_bind, run_underlying hu, Result.andThen_ok, Sem.run_pure, Bool.false_eq_true, if_false, hget, vOf, hu, hh]
  · simp only [part, isAgg, Sem.run_bind, run_underlying hu, Result.andThen_ok, Sem.run_pure, if_true, hsz, hex, vOf, hu]
  · simp only [part, isAgg, Sem.run_bind, run_underlying hu, Result.andThen_ok, Sem.run_pure, if_true, hsz, hex, vOf, hu]

theorem take_drop_eq {xs ys : List Int} {o m : Nat} : (xs.drop o = ys.drop o) ↔ ((xs.drop o).take m = (ys.drop o).take m ∧ xs.drop (o + m) = ys.drop (o + m)) := by
  constructor
  · intro h
    have h2 := congrArg (List.drop m) h
    rw [List.drop_drop, List.drop_drop] at h2
    exact ⟨by rw [h], h2⟩
  · intro ⟨h1, h2⟩
    rw [← List.take_append_drop m (xs.drop o), ← List.take_append_drop m (ys.drop o), h1, List.drop_drop, List.drop_drop, h2]

/-- Equality. -/
theorem equalIn_flat : ∀ (d : Nat) (t m : Nat), flatN P d t = some m → ∀ (k : Nat) (xs ys : List Int) (w : World), xs.length = m → ys.length = m → (Op.equalIn (k + d) t (vOf P t xs) (vOf P t ys)).run P w = .ok (decide (xs = ys)) w
  | 0, _, _, h => by cases h
  | d + 1, t, m, h => by
    intro k xs ys w hx hy
    have ih := equalIn_flat d
    have hinfo := flatN_info h
    unfold flatN at h
    split at h
    · rename_i i hi hu
      cases hb : Nat.beq i.size 1 with
      | false => simp [hb] at h
      | true =>
        simp [hb] at h
        subst h
        match xs, ys, hx, hy with
        | [a], [b], _, _ =>
          simp only [vOf, hu, List.headD_cons]
          rw [show k + (d + 1) = (k + d) + 1 from rfl, run_equalIn_int w (k + d) t .i64 .i64 a b hu]
          congr 1
          by_cases hab : a = b <;> simp [hab]
    · rename_i i n e hi hu
      split at h
      · rename_i q hq
        cases hb : Nat.beq i.size (n * q) with
        | false => simp [hb] at h
        | true =>
          simp [hb] at h
          subst h
          obtain ⟨j, hj, hjs⟩ := flatN_info hq
          have hco : P.cellsOf e = q := by simp [Program.cellsOf, hj, hjs]
          simp only [vOf, hu]
          rw [show k + (d + 1) = (k + d) + 1 from rfl, run_equalIn_array w (k + d) _ _ hu hj, hco]
          have key : ∀ (c s : Nat), s + c = n → (Op.eqItems (k + d) e q (i64s xs).toArray (i64s ys).toArray (List.range' s c)).run P w = .ok (decide (xs.drop (s * q) = ys.drop (s * q))) w := by
            intro c
            induction c with
            | zero =>
              intro s hs
              have : s = n := by omega
              subst this
              rw [List.drop_of_length_le (by omega), List.drop_of_length_le (by omega)]
              simp [Op.eqItems]
            | succ c ihc =>
              intro s hs
              have hle : s * q + q ≤ n * q := by
                have := Nat.mul_le_mul_right q (show s + 1 ≤ n by omega)
                rw [Nat.add_mul] at this; omega
              rw [List.range'_succ]
              simp only [Op.eqItems, Sem.run_bind, part_flat hq (show s * q + q ≤ xs.length by omega), part_flat hq (show s * q + q ≤ ys.length by omega), Result.andThen_ok,
                ih e q hq k ((xs.drop (s * q)).take q) ((ys.drop (s * q)).take q) w (by simp; omega) (by simp; omega)]
              have htd := take_drop_eq (xs := xs) (ys := ys) (o := s * q) (m := q)
              by_cases h1 : (xs.drop (s * q)).take q = (ys.drop (s * q)).take q
              · rw [decide_eq_true h1]
                simp only [Bool.not_true, Bool.false_eq_true, if_false]
                rw [ihc (s + 1) (by omega), show (s + 1) * q = s * q + q by rw [Nat.add_mul]; omega]
                congr 1
                rw [decide_eq_decide, htd]
                simp [h1]
              · rw [decide_eq_false h1]
                simp only [Bool.not_false, if_true, Sem.run_pure]
                congr 1
                symm
                rw [decide_eq_false_iff_not, htd]
                exact fun hh => h1 hh.1
          have := key n 0 (by omega)
          rw [List.range_eq_range']
          simpa using this
      · cases h
    · rename_i i fs hi hu
      split at h
      · rename_i q hq
        cases hb : (!P.stoodInHeld t && Nat.beq i.size q) with
        | false => simp [hb] at h
        | true =>
          simp [hb] at h
          subst h
          simp only [Bool.and_eq_true, Bool.not_eq_true'] at hb
          have hfo : P.fieldsOf t = fs := by simp [Program.fieldsOf, hu]
          simp only [vOf, hu]
          rw [show k + (d + 1) = (k + d) + 1 from rfl, run_equalIn_struct w (k + d) t _ _ (by rw [hfo]; exact hu) hb.1, hfo]
          have key : ∀ (gs : List Field) (o : Nat), flatFs (flatN P d) gs o = some q → (Op.eqFields (k + d) (i64s xs).toArray (i64s ys).toArray gs).run P w = .ok (decide (xs.drop o = ys.drop o)) w ∧ o ≤ q := by
            intro gs
            induction gs with
            | nil =>
              intro o ho
              simp only [flatFs, Option.some.injEq] at ho
              subst ho
              rw [List.drop_of_length_le (by omega), List.drop_of_length_le (by omega)]
              exact ⟨by simp [Op.eqFields], Nat.le_refl _⟩
            | cons g r ihg =>
              intro o ho
              unfold flatFs at ho
              split at ho
              · rename_i m hm
                cases hb2 : (g.name != "_" && Nat.beq g.offset o) with
                | false => simp [hb2] at ho
                | true =>
                  simp only [hb2, cond_true] at ho
                  simp only [Bool.and_eq_true, bne_iff_ne, ne_eq] at hb2
                  have hof : g.offset = o := Nat.eq_of_beq_eq_true hb2.2
                  obtain ⟨h1, hle⟩ := ihg (o + m) ho
                  refine ⟨?_, by omega⟩
                  simp only [Op.eqFields, if_pos hb2.1, Sem.run_ite, Sem.run_bind, hof, part_flat hm (show o + m ≤ xs.length by omega), part_flat hm (show o + m ≤ ys.length by omega), Result.andThen_ok,
                    ih g.type m hm k ((xs.drop o).take m) ((ys.drop o).take m) w (by simp; omega) (by simp; omega)]
                  have htd := take_drop_eq (xs := xs) (ys := ys) (o := o) (m := m)
                  by_cases h2 : (xs.drop o).take m = (ys.drop o).take m
                  · rw [decide_eq_true h2]
                    simp only [Bool.not_true, Bool.false_eq_true, if_false]
                    rw [h1]
                    congr 1
                    rw [decide_eq_decide, htd]
                    simp [h2]
                  · rw [decide_eq_false h2]
                    simp only [Bool.not_false, if_true, Sem.run_pure]
                    congr 1
                    symm
                    rw [decide_eq_false_iff_not, htd]
                    exact fun hh => h2 hh.1
              · cases ho
          have := (key fs.toList 0 hq).1
          simpa using this
      · cases h
    · cases h

theorem eql_flat {t m d : Nat} (hd : d ≤ 10000) (hf : flatN P d t = some m) (hw : notInt P t = true) (hg : P.eqGuardType P.depth t = false) (x y : Operand) {cx cy : List Value} {xs ys : List Int} (hcx : cx = i64s xs) (hcy : cy = i64s ys)
    (hx : xs.length = m) (hy : ys.length = m) (w : World) {K : Value → World → Prop} (hK : K (.bool (decide (xs = ys))) w) : RunV P (do eqGuard .eql t x y (.agg cx.toArray) (.agg cy.toArray); binOp .eql t (.agg cx.toArray) (.agg cy.toArray)) w K := by
  subst hcx; subst hcy
  have hv : ∀ zs, vOf P t zs = .agg (i64s zs).toArray := fun zs => by
    unfold vOf
    split
    · rename_i hu; unfold notInt at hw; rw [hu] at hw; cases hw
    · rfl
  have h := equalIn_flat d t m hf (10000 - d) xs ys w hx hy
  rw [hv, hv, show 10000 - d + d = 10000 by omega] at h
  exact ⟨_, w, by rw [Sem.run_bind, run_eqGuard_agg w .eql t x y _ _ hg, Result.andThen_ok, run_eql_struct, h]; rfl, hK⟩

theorem neq_flat {t m d : Nat} (hd : d ≤ 10000) (hf : flatN P d t = some m) (hw : notInt P t = true) (hg : P.eqGuardType P.depth t = false) (x y : Operand) {cx cy : List Value} {xs ys : List Int} (hcx : cx = i64s xs) (hcy : cy = i64s ys)
    (hx : xs.length = m) (hy : ys.length = m) (w : World) {K : Value → World → Prop} (hK : K (.bool (!decide (xs = ys))) w) : RunV P (do eqGuard .neq t x y (.agg cx.toArray) (.agg cy.toArray); binOp .neq t (.agg cx.toArray) (.agg cy.toArray)) w K := by
  subst hcx; subst hcy
  have hv : ∀ zs, vOf P t zs = .agg (i64s zs).toArray := fun zs => by
    unfold vOf
    split
    · rename_i hu; unfold notInt at hw; rw [hu] at hw; cases hw
    · rfl
  have h := equalIn_flat d t m hf (10000 - d) xs ys w hx hy
  rw [hv, hv, show 10000 - d + d = 10000 by omega] at h
  exact ⟨_, w, by rw [Sem.run_bind, run_eqGuard_agg w .neq t x y _ _ hg, Result.andThen_ok, run_neq_struct, h]; rfl, hK⟩

end

end Go.E

/- Image, Pending; SameImage. -/
namespace Go.Proofs.YtlfolinjajjgjaaDoor
open Go.E

def ilc (r : List Nat × Nat) : List Value := wcells r.1 ++ [.int .i64 (r.2 : Nat)]
def iOf (r : Ln × Value) : List Nat × Nat := (r.1.ws, r.1.code)
theorem ilc_len {r : List Nat × Nat} (h : r.1.length = 8) : (ilc r).length = 9 := by simp [ilc, wcells, h]
theorem ilc_one (r : List Nat × Nat) : (ilc r).all E.one = true := by simp [ilc, wcells, E.one]
theorem ilc_ints (r : List Nat × Nat) : ilc r = i64s ((r.1 ++ [r.2]).map fun n : Nat => (n : Int)) := by simp [ilc, wcells, i64s]
theorem wcells_ints (ws : List Nat) : wcells ws = i64s (ws.map fun n : Nat => (n : Int)) := by simp [wcells, i64s]
theorem nats_eq {a b : List Nat} : (a.map fun n : Nat => (n : Int)) = (b.map fun n : Nat => (n : Int)) ↔ a = b := by
  exact List.map_inj_right (fun x y h => Int.ofNat.inj h)

theorem fm_at9 {L : List (List Nat × Nat)} (hL : ∀ r ∈ L, r.1.length = 8) {i : Nat} {r : List Nat × Nat} (hr : L[i]? = some r) {W : World} {g o : Nat} (hc : Cells W g o (L.flatMap ilc)) : Cells W g (o + i * 9) (ilc r) := fun j v hv => by
  rw [Nat.add_assoc]
  exact hc _ _ (fm_get (k := 9) (fun r hr => ilc_len (hL r hr)) hr hv)

section
variable {w : World}

set_option maxHeartbeats 1000000 in
theorem Image_calls {p bl bm : Nat} {rows : List (Ln × Value)} {evv : Value} {span nev : Nat} (h : MemX w p bl bm rows evv span nev) :
    Calls cx.P 13 #[.pointer (some ⟨p, 0, none⟩)] w (Ret fun v w' => Tr [] w w' ∧ ∃ bo, v = .slice (some ⟨bo, 0, none⟩) rows.length rows.length ∧ w.heap.size ≤ bo ∧ Blk w' bo ((rows.map iOf).flatMap ilc) 48) := by
  have hsm := h.small
  obtain ⟨n, hn⟩ : ∃ n, n = rows.length := ⟨_, rfl⟩
  refine calls_body cx_ok (args := [.pointer (some ⟨p, 0, none⟩)]) Tryd.func13 rfl 29 rfl rfl [.tmp 2] rfl ?_
  refine ⟨_, h.head.cell rfl, ?_⟩
  rw [← hn] at hsm ⊢
  refine ⟨n, n, rfl, rfl, Nat.le_refl _, ⟨by show n * 72 ≤ _; omega, by omega, rfl⟩, fun bo w1 n1 => ?_⟩
  have e1 := n1.num; have z1 := n1.size
  refine ⟨_, (h.head.ext n1.tr).cell rfl, ?_⟩
  rw [← hn]
  obtain ⟨I, hI⟩ : ∃ I, I = rows.map iOf := ⟨_, rfl⟩
  have hIl : I.length = n := by rw [hI, List.length_map, hn]
  have hI8 : ∀ r ∈ I, r.1.length = 8 := fun r hr => by
    rw [hI] at hr
    obtain ⟨x, hx, rfl⟩ := List.mem_map.1 hr
    exact (h.ok x hx).ws.len
  rw [← hI]
  obtain ⟨G, hG⟩ : ∃ G : Nat → List (List Nat × Nat), G = fun k => I.take k ++ List.replicate (n - k) (zeros8, 0) := ⟨_, rfl⟩
  have hG8 : ∀ k, ∀ r ∈ G k, r.1.length = 8 := fun k r hr => by
    rw [hG] at hr
    rcases List.mem_append.1 hr with hr | hr
    · exact hI8 r (List.mem_of_mem_take hr)
    · rw [List.eq_of_mem_replicate hr]; rfl
  have hGc : ∀ k, ∀ r ∈ G k, (ilc r).length = 9 := fun k r hr => ilc_len (hG8 k r hr)
  have hGl : ∀ k, k ≤ n → (G k).length = n := fun k hk => by rw [hG]; simp; omega
  have B0 : Blk w1 bo ((G 0).flatMap ilc) 48 := by
    have hb := n1.blk
    have : G 0 = List.replicate n (zeros8, 0) := by rw [hG]; simp
    rw [this, ← flatten_rep n _ (zeros8, 0) ilc rfl]
    exact hb
  refine loop_rule cx_ok (fun k W => k ≤ n ∧ Tr [] w W ∧ Blk W bo ((G k).flatMap ilc) 48) (fun k : Nat => [(3, .slice (some ⟨bo, 0, none⟩) n n), (15, .slice (some ⟨bl, 0, none⟩) n n), (16, .int .i64 n), (17, .int .i64 k)]) (fun k => n - k) 0
    ⟨rfl, rfl, rfl, rfl, trivial⟩ ⟨by omega, n1.tr, B0⟩ ?_
  rintro k W ⟨hk, tW, BW⟩
  have zW := tW.size
  have hboW := BW.lt
  refine ⟨fun hlt => ?_, fun hge => ?_⟩
  · have hkn : k < n := by omega
    obtain ⟨r, hr⟩ : ∃ r, rows[k]? = some r := ⟨_, List.getElem?_eq_getElem (by omega)⟩
    have hok := h.ok r (List.mem_of_getElem? hr)
    have hIr : I[k]? = some (iOf r) := by rw [hI, List.getElem?_map, hr]; rfl
    have hcl : Cells W bl (0 + k * 11) (lcells r) := fun j v hv => by rw [Nat.zero_add]; exact (h.ext tW).cell hr hv
    have hone : (lcells r).all E.one = true := by
      obtain ⟨av, cv, hv⟩ := Row.slice (h.pend r (List.mem_of_getElem? hr))
      simp [lcells, wcells, E.one, hv]
    refine ⟨k, rfl, hkn, lcells r, hcl, lcells_len hok, fun b5 W1 n5 => ?_⟩
    have e5 := n5.num; have z5 := n5.size
    refine ⟨_, _, n5.blk, lcells_len hok, by show 0 + 11 ≤ 11; decide, hone, fun W2 u2 => ?_⟩
    have z2 := u2.size
    have B5 : Blk W2 b5 (lcells r) 69 := Upd.whole u2 rfl (lcells_len hok)
    have t2 : Tr [] W W2 := u2.ext n5.tr (by omega)
    have hc9 : Cells W2 b5 (0 + 0) (ilc (iOf r)) := B5.cells 0 _ fun j v hv => by
      rw [Nat.zero_add]
      have : lcells r = ilc (iOf r) ++ [r.2, .int .i64 (r.1.mark : Nat)] := by simp [lcells, ilc, iOf]
      rw [this, List.getElem?_append_left (List.getElem?_eq_some_iff.1 hv).1]
      exact hv
    have B2 := BW.ext t2
    have hl9 : (ilc (iOf r)).length = 9 := ilc_len hok.ws.len
    refine ⟨ilc (iOf r), hc9, hl9, k, rfl, hkn, _, _, B2, hl9, by rw [fm_len (hGc k), hGl k hk]; show 0 + k * 9 + 9 ≤ _; omega, ilc_one _, fun W3 u3 => ?_⟩
    have hGk : (G k)[k]? = some (zeros8, 0) := by
      rw [hG]
      simp only
      rw [List.getElem?_append_right (by simp; omega), List.length_take, List.getElem?_replicate, if_pos (by omega)]
    have hGs : G (k + 1) = (G k).set k (iOf r) := by
      rw [hG]
      simp only
      rw [take_snoc hIr, List.set_append, if_neg (by simp; omega), List.length_take, Nat.min_eq_left (by omega), Nat.sub_self]
      have : n - k = (n - (k + 1)) + 1 := by omega
      rw [this, List.replicate_succ, List.set_cons_zero]
      simp
    have B3 : Blk W3 bo ((G (k + 1)).flatMap ilc) 48 := by
      have hb := u3.blk
      rw [hGs, ← fm_splice (k := 9) (n := 9) (o := 0) (vs := ilc (iOf r)) splice (by funext l o n vs; rfl) (hGc k) hGk (by omega) (by rw [splice_all (hGc k _ (List.mem_of_getElem? hGk)) hl9])]
      rw [show k * 9 + 0 = 0 + k * 9 by omega]
      exact hb
    refine ⟨((k + 1 : Nat) : Int), by rw [w64 (by omega)]; omega, ?_⟩
    exact ⟨rfl, k + 1, ⟨rfl, rfl, rfl, rfl, trivial⟩, ⟨hkn, u3.ext (tW.ext t2) (by omega), B3⟩, by omega⟩
  · have hkn : k = n := by omega
    have : G k = I := by rw [hG, hkn]; simp [← hIl]
    rw [this] at BW
    exact ⟨tW, bo, rfl, by omega, BW⟩

theorem flat_line : flatN cx.P 4 48 = some 9 := by kernel_rfl
theorem flat_words : flatN cx.P 4 46 = some 8 := by kernel_rfl
theorem guard_line : cx.P.eqGuardType cx.P.depth 48 = false := by kernel_rfl
theorem guard_words : cx.P.eqGuardType cx.P.depth 46 = false := by kernel_rfl
theorem wide_line : notInt cx.P 48 = true := by kernel_rfl
theorem wide_words : notInt cx.P 46 = true := by kernel_rfl

theorem SameImage_calls (L : List (List Nat × Nat)) (hL : ∀ r ∈ L, r.1.length = 8) (hn : L.length ≤ 4611686018427387904) (b1 b2 c1 c2 : Nat) (h1 : Cells w b1 0 (L.flatMap ilc)) (h2 : Cells w b2 0 (L.flatMap ilc)) :
    Calls cx.P 14 #[.slice (some ⟨b1, 0, none⟩) L.length c1, .slice (some ⟨b2, 0, none⟩) L.length c2] w (Ret fun v w' => v = .bool true ∧ Tr [] w w') := by
  refine calls_body cx_ok (args := [.slice (some ⟨b1, 0, none⟩) L.length c1, .slice (some ⟨b2, 0, none⟩) L.length c2]) Tryd.func14 rfl 26 rfl rfl [.tmp 4] rfl ?_
  refine ⟨fun _ => ?_, fun h => absurd rfl h⟩
  refine loop_rule cx_ok (fun k W => k ≤ L.length ∧ Tr [] w W) (fun k : Nat => [(0, .slice (some ⟨b1, 0, none⟩) L.length c1), (1, .slice (some ⟨b2, 0, none⟩) L.length c2), (5, .int .i64 k)]) (fun k => L.length - k) 0 ⟨rfl, rfl, rfl, trivial⟩ ⟨by omega, Tr.refl _ _⟩ ?_
  rintro k W ⟨hk, tW⟩
  refine ⟨fun hlt => ?_, fun hge => ?_⟩
  · have hkn : k < L.length := by omega
    obtain ⟨r, hr⟩ : ∃ r, L[k]? = some r := ⟨_, List.getElem?_eq_getElem hkn⟩
    have hc1 : Cells W b1 (0 + k * 9) (ilc r) := (fm_at9 hL hr h1).ext tW
    have hc2 : Cells W b2 (0 + k * 9) (ilc r) := (fm_at9 hL hr h2).ext tW
    have hl9 : (ilc r).length = 9 := ilc_len (hL r (List.mem_of_getElem? hr))
    refine draw_rule cx_ok [] (Plan.takes [0, 1, 2, 3, 4, 5, 6, 7] (.one true 8 .done)) (by kernel_rfl) ?_
    intro W1 d
    refine ⟨k, rfl, hkn, _, fun w' t => hc1.tr t (by simp), hl9, k, rfl, hkn, _, fun w' t => hc2.tr t (by simp), hl9, ?_⟩
    refine ⟨?_, trivial⟩
    refine neq_flat (d := 4) (by decide) flat_line wide_line guard_line _ _ (ilc_ints r) (ilc_ints r) (by simp [hL r (List.mem_of_getElem? hr)]) (by simp [hL r (List.mem_of_getElem? hr)]) W1 ?_
    rw [decide_eq_true rfl]
    refine ⟨d.tr, ?_⟩
    refine ⟨((k + 1 : Nat) : Int), by rw [w64 (by omega)]; omega, ?_⟩
    exact ⟨rfl, k + 1, ⟨rfl, rfl, rfl, trivial⟩, ⟨hkn, tW.ext d.tr⟩, by omega⟩
  · exact ⟨rfl, tW⟩

theorem clone_row_calls {s : Value} {n : Nat} {xs : List Value} (h : Row w 89 2 s n xs) (h1 : xs.all E.one = true) (hn : n ≤ 1099511627776) :
    Calls cx.P 39 #[s] w (Ret fun v w' => Row w' 89 2 v n xs ∧ Tr [] w w') := by
  rcases Row.elem h with ⟨rfl, rfl⟩ | ⟨g, cap, rfl, _, _, hc⟩
  · refine calls_body cx_ok (args := [.slice none 0 0]) Tryd.func39 rfl 8 rfl rfl [.tmp 2] rfl ?_
    refine ⟨.bool true, w, eql_nil (t := 44) (x := ⟨1, 24, false, [.slice none 0 0], .slice 89⟩) rfl rfl _ _ none 0 0 w, ?_⟩
    exact ⟨h, Tr.refl _ _⟩
  · exact (clone_store_calls w g 0 n cap xs h.1 hc h1 hn).mono fun e w' ⟨v, he, hr, t, _⟩ => ⟨v, he, hr, t⟩

theorem Pending_calls {p bl bm : Nat} {rows : List (Ln × Value)} {evv : Value} {span nev : Nat} (h : MemX w p bl bm rows evv span nev) (i : Nat) {r : Ln × Value} (hr : rows[i]? = some r) (hsm : r.1.pend.length ≤ 1099511627776) :
    Calls cx.P 15 #[.pointer (some ⟨p, 0, none⟩), .int .i64 (i : Nat)] w (Ret fun v w' => Row w' 89 2 v r.1.pend.length (pcells r.1.pend) ∧ Tr [] w w') := by
  have hi : i < rows.length := (List.getElem?_eq_some_iff.1 hr).1
  refine calls_body cx_ok (args := [.pointer (some ⟨p, 0, none⟩), .int .i64 (i : Nat)]) Tryd.func15 rfl 18 rfl rfl [.tmp 4] rfl ?_
  refine call (has_calls h i) ?_
  rintro v _ ⟨hv, rfl⟩
  rw [decide_eq_true (by omega)] at hv
  subst hv
  refine ⟨_, h.head.cell rfl, i, rfl, hi, _, h.pcell hr, ?_⟩
  refine call (clone_row_calls (h.pend r (List.mem_of_getElem? hr)) (pcells_one _) hsm) ?_
  rintro v w1 ⟨hr1, t1⟩
  exact ⟨hr1, t1⟩

end

end Go.Proofs.YtlfolinjajjgjaaDoor

/- memory.From; the specification's From. -/
namespace Go.Proofs.YtlfolinjajjgjaaDoor
open Go.E

def wordI (x : Int) : Bool := decide (0 ≤ x ∧ x ≤ 1099511627775)

theorem callG_intro {c : Cx} {f : Nat} {args : List Value} {w : World} {K : Value → World → Prop} (h : (Nat.ble c.lo f && Nat.blt f c.hi) = true) (h2 : CallP c.P f args.toArray w K) : callG c f args w K := by
  unfold callG; rw [h]; exact h2

section
variable {w : World}

theorem i64s_get {xs : List Int} {i : Nat} {x : Int} (h : xs[i]? = some x) : (i64s xs)[i]? = some (.int .i64 x) := by simp [i64s, h]

/-- slices.IndexFunc with a function without captured variables. -/
theorem IndexFunc_calls (xs : List Int) (s : Value) (hs : Sli w s xs.length (i64s xs)) (hn : xs.length ≤ 4611686018427387904) (f : Nat) (hf : (Nat.ble cx.lo f && Nat.blt f cx.hi) = true) (g : Int → Bool) (hg : ∀ x W, x ∈ xs → Calls cx.P f #[.int .i64 x] W (Ret fun v W' => v = .bool (g x) ∧ W = W')) :
    Calls cx.P 79 #[s, .func (.func f) #[] #[]] w (Ret fun v w' => v = .int .i64 (match xs.findIdx? g with | some i => (i : Int) | none => -1) ∧ w = w') := by
  obtain ⟨a, c, rfl, _, hs⟩ := hs
  refine calls_body cx_ok (args := [.slice a xs.length c, .func (.func f) #[] #[]]) Tryd.func79 rfl 19 rfl rfl [.tmp 4] rfl ?_
  refine loop_rule cx_ok (fun k W => (k ≤ xs.length ∧ ∀ i x, i < k → xs[i]? = some x → g x = false) ∧ w = W) (fun k : Nat => [(0, .slice a xs.length c), (1, .func (.func f) #[] #[]), (7, .int .i64 xs.length), (8, .int .i64 k)]) (fun k => xs.length - k) 0 ⟨rfl, rfl, rfl, rfl, trivial⟩ ⟨⟨by omega, fun i x hi => by omega⟩, rfl⟩ ?_
  rintro k _ ⟨⟨hk, hno⟩, rfl⟩
  refine ⟨fun hlt => ?_, fun hge => ?_⟩
  · have hk' : k < xs.length := by omega
    obtain ⟨b, o, rfl, hc⟩ := hs.resolve_left (fun hh => by have := hh.2; omega)
    obtain ⟨x, hx⟩ : ∃ x, xs[k]? = some x := ⟨_, List.getElem?_eq_getElem hk'⟩
    refine ⟨k, rfl, hk', _, by rw [Nat.mul_one]; exact hc k _ (i64s_get hx), ?_⟩
    refine callG_intro hf ?_
    refine call (hg x w (List.mem_of_getElem? hx)) ?_
    rintro _ _ ⟨rfl, rfl⟩
    cases hgx : g x with
    | true =>
      refine ⟨?_, rfl⟩
      have : xs.findIdx? g = some k := by
        rw [List.findIdx?_eq_some_iff_getElem]
        refine ⟨hk', by rw [(List.getElem?_eq_some_iff.1 hx).2]; exact hgx, fun j hj => ?_⟩
        rw [hno j xs[j] hj (List.getElem?_eq_getElem (by omega))]
        decide
      rw [this]
      rfl
    | false =>
      refine ⟨((k + 1 : Nat) : Int), by rw [w64 (by omega)]; omega, ?_⟩
      refine ⟨rfl, k + 1, ⟨rfl, rfl, rfl, rfl, trivial⟩, ⟨⟨by omega, fun i y hi hy => ?_⟩, rfl⟩, by omega⟩
      by_cases hik : i = k
      · subst hik
        rw [hx] at hy
        obtain rfl := Option.some.inj hy
        exact hgx
      · exact hno i y (by omega) hy
  · refine ⟨?_, rfl⟩
    have : xs.findIdx? g = none := by
      rw [List.findIdx?_eq_none_iff]
      intro x hx
      obtain ⟨i, hi⟩ := List.mem_iff_getElem?.1 hx
      have := (List.getElem?_eq_some_iff.1 hi).1
      exact hno i x (by omega) hi
    rw [this]
    rfl

theorem ContainsFunc_calls (xs : List Int) (s : Value) (hs : Sli w s xs.length (i64s xs)) (hn : xs.length ≤ 4611686018427387904) (f : Nat) (hf : (Nat.ble cx.lo f && Nat.blt f cx.hi) = true) (g : Int → Bool) (hg : ∀ x W, x ∈ xs → Calls cx.P f #[.int .i64 x] W (Ret fun v W' => v = .bool (g x) ∧ W = W')) :
    Calls cx.P 61 #[s, .func (.func f) #[] #[]] w (Ret fun v w' => v = .bool (xs.any g) ∧ w = w') := by
  refine calls_body cx_ok (args := [s, .func (.func f) #[] #[]]) Tryd.func61 rfl 9 rfl rfl [.tmp 4] rfl ?_
  refine call (IndexFunc_calls xs s hs hn f hf g hg) ?_
  rintro _ _ ⟨rfl, rfl⟩
  cases hi : xs.findIdx? g with
  | some i =>
    refine ⟨fun _ => ⟨?_, rfl⟩, fun h => absurd (Int.natCast_nonneg i) h⟩
    obtain ⟨h1, h2, _⟩ := List.findIdx?_eq_some_iff_getElem.1 hi
    have : xs.any g = true := List.any_eq_true.2 ⟨_, List.getElem_mem h1, h2⟩
    rw [this]; rfl
  | none =>
    refine ⟨fun h => absurd h (by decide), fun _ => ⟨?_, rfl⟩⟩
    rw [List.findIdx?_eq_none_iff] at hi
    have : xs.any g = false := List.any_eq_false.2 fun x hx => by rw [hi x hx]; decide
    rw [this]; rfl

theorem words1_calls (x : Int) (W : World) : Calls cx.P 62 #[.int .i64 x] W (Ret fun v W' => v = .bool (!wordI x) ∧ W = W') := by
  refine calls_body cx_ok (args := [.int .i64 x]) Tryd.func62 rfl 6 rfl rfl [.tmp 2] rfl ?_
  refine call (word_calls x W) ?_
  rintro _ _ ⟨rfl, rfl⟩
  exact ⟨rfl, rfl⟩

theorem words_calls (xs : List Int) (h8 : xs.length = 8) : Calls cx.P 42 #[.agg (i64s xs).toArray] w (Ret fun v w' => v = .bool (xs.all wordI) ∧ Tr [] w w') := by
  refine calls_body cx_ok (args := [.agg (i64s xs).toArray]) Tryd.func42 rfl 6 rfl rfl [.tmp 2] rfl ?_
  intro b w1 n1
  have B : Blk w1 b (i64s xs) 46 := n1.blk
  refine ⟨0, 8, rfl, rfl, by omega, by omega, ?_⟩
  rw [sadr_zero]
  have hs : Sli w1 (.slice (some ⟨b, 0, none⟩) xs.length xs.length) xs.length (i64s xs) := ⟨_, _, rfl, Nat.le_refl _, .inr ⟨b, 0, rfl, B.all⟩⟩
  have hcf := ContainsFunc_calls xs _ hs (by omega) 62 rfl (fun x => !wordI x) (fun x W _ => words1_calls x W)
  rw [h8] at hcf
  refine call hcf ?_
  rintro _ _ ⟨rfl, rfl⟩
  refine ⟨?_, n1.tr⟩
  show Value.bool (!xs.any fun x => !wordI x) = _
  rw [List.all_eq_not_any_not]

/-! Images -/

def imC (r : List Int × Int) : List Value := i64s (r.1 ++ [r.2])
def natI (r : List Int × Int) : List Nat × Nat := (r.1.map Int.toNat, r.2.toNat)
def goodI (r : List Int × Int) : Bool := r.1.all wordI && decide (0 ≤ r.2 ∧ r.2 ≤ 1023)
theorem imC_len {r : List Int × Int} (h : r.1.length = 8) : (imC r).length = 9 := by simp [imC, i64s, h]

/-- An image, to read alone. -/
def ImgR (w : World) (v : Value) (I : List (List Int × Int)) : Prop := ∃ a c, v = .slice a I.length c ∧ (∀ r ∈ I, r.1.length = 8) ∧ (I.length = 0 ∨ ∃ g o, a = some ⟨g, o, none⟩ ∧ Cells w g o (I.flatMap imC))

theorem ImgR.ext {w w' : World} {v : Value} {I : List (List Int × Int)} (h : ImgR w v I) (t : Tr [] w w') : ImgR w' v I := by
  obtain ⟨a, c, hv, h8, h | ⟨g, o, ha, hc⟩⟩ := h
  · exact ⟨a, c, hv, h8, .inl h⟩
  · exact ⟨a, c, hv, h8, .inr ⟨g, o, ha, hc.ext t⟩⟩

theorem toNat_word {x : Int} (h : wordI x = true) : ((x.toNat : Nat) : Int) = x ∧ x.toNat < 2 ^ 40 := by
  unfold wordI at h
  have := of_decide_eq_true h
  omega

theorem good_cells {r : List Int × Int} (h : goodI r = true) : imC r = ilc (natI r) := by
  unfold goodI at h
  rw [Bool.and_eq_true] at h
  have hc := of_decide_eq_true h.2
  unfold imC ilc natI i64s wcells
  rw [List.map_append, List.map_map]
  congr 1
  · refine List.map_congr_left fun x hx => ?_
    have := (toNat_word (List.all_eq_true.1 h.1 x hx)).1
    simp only [Function.comp, this]
  · simp only [List.map_cons, List.map_nil]
    rw [show ((r.2.toNat : Nat) : Int) = r.2 by omega]
theorem good_line {r : List Int × Int} (h8 : r.1.length = 8) (h : goodI r = true) : Line8 (natI r).1 ∧ (natI r).2 < 1024 := by
  unfold goodI at h
  rw [Bool.and_eq_true] at h
  have hc := of_decide_eq_true h.2
  refine ⟨⟨by simp [natI, h8], fun x hx => ?_⟩, by show r.2.toNat < 1024; omega⟩
  obtain ⟨y, hy, rfl⟩ := List.mem_map.1 hx
  exact (toNat_word (List.all_eq_true.1 h.1 y hy)).2

def okI (I : List (List Int × Int)) : Prop := 1 ≤ I.length ∧ I.length ≤ 4096 ∧ ∀ r ∈ I, goodI r = true

def rowI (x : List Nat × Nat) : Ln × Value := (⟨x.1, x.2, [], 0⟩, nilv)
def rowsI (I : List (List Int × Int)) : List (Ln × Value) := I.map fun r => rowI (natI r)
theorem rowI_ok {x : List Nat × Nat} (h : Line8 x.1 ∧ x.2 < 1024) : (rowI x).1.Ok := ⟨h.1, h.2, by simp [rowI], by simp [rowI]⟩

theorem imC_at {I : List (List Int × Int)} (h8 : ∀ r ∈ I, r.1.length = 8) {i : Nat} {r : List Int × Int} (hr : I[i]? = some r) {W : World} {g o : Nat} (hc : Cells W g o (I.flatMap imC)) : Cells W g (o + i * 9) (imC r) := fun j v hv => by
  rw [Nat.add_assoc]
  exact hc _ _ (fm_get (k := 9) (fun r hr => imC_len (h8 r hr)) hr hv)

set_option maxHeartbeats 1000000 in
theorem From_calls (I : List (List Int × Int)) (v : Value) (h : ImgR w v I) (hg : Gl w) :
    Calls cx.P 19 #[v] w (Ret fun x w' => Tr [] w w' ∧ ((x = .pointer none ∧ ¬ okI I) ∨ (okI I ∧ ∃ p bl bm, x = .pointer (some ⟨p, 0, none⟩) ∧ MemW w' p bl bm (rowsI I) nilv 0 0 ∧ ∀ b ∈ foot p bl bm (rowsI I) nilv, w.heap.size ≤ b))) := by
  obtain ⟨a, c, rfl, h8, hcs⟩ := h
  refine calls_body cx_ok (args := [.slice a I.length c]) Tryd.func19 rfl 48 rfl rfl [.tmp 2] rfl ?_
  refine ⟨fun h1 => ⟨Tr.refl _ _, .inl ⟨rfl, fun hh => by have := hh.1; omega⟩⟩, fun h1 => ⟨fun h2 => ⟨Tr.refl _ _, .inl ⟨rfl, fun hh => by have := hh.2.1; omega⟩⟩, fun h2 => ?_⟩⟩
  obtain ⟨n, hn⟩ : ∃ n, n = I.length := ⟨_, rfl⟩
  rw [← hn] at h1 h2 hcs ⊢
  obtain ⟨g, o, rfl, hc⟩ := hcs.resolve_left (by omega)
  refine ⟨n, n, rfl, rfl, Nat.le_refl _, ⟨by show n * 104 ≤ _; omega, by omega, rfl⟩, fun bl w1 n1 => ?_⟩
  have e1 := n1.num; have z1 := n1.size
  obtain ⟨G, hG⟩ : ∃ G : Nat → List (Ln × Value), G = fun k => (rowsI (I.take k)) ++ List.replicate (n - k) (raw0, nilv) := ⟨_, rfl⟩
  have hGl : ∀ k, k ≤ n → (G k).length = n := fun k hk => by rw [hG]; simp [rowsI]; omega
  have B1 : Blk w1 bl ((G 0).flatMap lcells) 69 := by
    have hb := n1.blk
    have : G 0 = List.replicate n (raw0, nilv) := by rw [hG]; simp [rowsI]
    rw [this, ← flatten_rep n _ (raw0, nilv) lcells rfl]
    exact hb
  refine loop_rule cx_ok (fun k W => (k ≤ n ∧ ∀ r ∈ I.take k, goodI r = true) ∧ Tr [] w W ∧ Blk W bl ((G k).flatMap lcells) 69) (fun k : Nat => [(3, .slice (some ⟨bl, 0, none⟩) n n), (17, .slice (some ⟨g, o, none⟩) n c), (18, .int .i64 n), (19, .int .i64 k)]) (fun k => n - k) 0
    ⟨rfl, rfl, rfl, rfl, trivial⟩ ⟨⟨by omega, by simp⟩, n1.tr, B1⟩ ?_
  rintro k W ⟨⟨hk, hgood⟩, tW, BW⟩
  have zW := tW.size
  have hblW := BW.lt
  have hGok : ∀ r ∈ G k, r.1.Ok := fun r hr => by
    rw [hG] at hr
    rcases List.mem_append.1 hr with hr | hr
    · obtain ⟨x, hx, rfl⟩ := List.mem_map.1 hr
      exact rowI_ok (good_line (h8 x (List.mem_of_mem_take hx)) (hgood x hx))
    · rw [List.eq_of_mem_replicate hr]; exact raw0_ok
  have hGL : ∀ r ∈ G k, (lcells r).length = 11 := fun r hr => lcells_len (hGok r hr)
  refine ⟨fun hlt => ?_, fun hge => ?_⟩
  · have hkn : k < n := by omega
    obtain ⟨r, hr⟩ : ∃ r, I[k]? = some r := ⟨_, List.getElem?_eq_getElem (by omega)⟩
    have hr8 := h8 r (List.mem_of_getElem? hr)
    have hl9 := imC_len hr8
    have hone : (imC r).all E.one = true := by simp [imC, i64s, E.one]
    refine ⟨k, rfl, hkn, imC r, (imC_at h8 hr hc).ext tW, hl9, fun b5 W1 n5 => ?_⟩
    have e5 := n5.num; have z5 := n5.size
    refine ⟨_, _, n5.blk, hl9, by show 0 + 9 ≤ 9; decide, hone, fun W2 u2 => ?_⟩
    have z2 := u2.size
    have B5 : Blk W2 b5 (imC r) 48 := Upd.whole u2 rfl hl9
    have t2 : Tr [] W W2 := u2.ext n5.tr (by omega)
    have hc8 : ∀ W, Tr [] W2 W → Cells W b5 (0 + 0) (i64s r.1) := fun W t => (B5.ext t).cells 0 _ fun j v hv => by
      rw [Nat.zero_add]
      have : imC r = i64s r.1 ++ [.int .i64 r.2] := by simp [imC, i64s]
      rw [this, List.getElem?_append_left (List.getElem?_eq_some_iff.1 hv).1]
      exact hv
    have hcd : ∀ W, Tr [] W2 W → W.cell? ⟨b5, 0 + 8, none⟩ = some (.int .i64 r.2) := fun W t => (B5.ext t).cell (by
      have : imC r = i64s r.1 ++ [.int .i64 r.2] := by simp [imC, i64s]
      rw [this]
      exact get_tail 8 (by simp [i64s, hr8]) 0)
    have hbad : ∀ W, Tr [] W2 W → goodI r = false → (Tr [] w W ∧ ((Value.pointer none = .pointer none ∧ ¬ okI I) ∨ (okI I ∧ ∃ p bl bm, Value.pointer none = .pointer (some ⟨p, 0, none⟩) ∧ MemW W p bl bm (rowsI I) nilv 0 0 ∧ ∀ b ∈ foot p bl bm (rowsI I) nilv, w.heap.size ≤ b))) := fun W t hb =>
      ⟨(tW.ext t2).ext t, .inl ⟨rfl, fun hh => by have := hh.2.2 r (List.mem_of_getElem? hr); rw [hb] at this; cases this⟩⟩
    refine ⟨i64s r.1, hc8 W2 (Tr.refl _ _), by simp [i64s, hr8], ?_⟩
    refine call (words_calls r.1 hr8) ?_
    rintro _ W3 ⟨rfl, t3⟩
    cases hw : r.1.all wordI with
    | false => exact hbad W3 t3 (by unfold goodI; rw [hw]; rfl)
    | true =>
    refine ⟨_, hcd W3 t3, fun hneg => ?_, fun hneg => ⟨_, hcd W3 t3, fun hbig => ?_, fun hbig => ?_⟩⟩
    · exact hbad W3 t3 (by unfold goodI; rw [decide_eq_false (by omega), Bool.and_false])
    · exact hbad W3 t3 (by unfold goodI; rw [decide_eq_false (by omega), Bool.and_false])
    have hgr : goodI r = true := by unfold goodI; rw [hw, decide_eq_true (by omega)]; rfl
    have hcl := good_cells hgr
    have hln := good_line hr8 hgr
    have z3 := t3.size
    refine ⟨imC r, (B5.ext t3).all, hl9, k, rfl, hkn, _, _, (BW.ext t2).ext t3, hl9, by rw [fm_len hGL, hGl k hk]; show 0 + k * 11 + 0 + 9 ≤ _; omega, hone, fun W4 u4 => ?_⟩
    have hGk : (G k)[k]? = some (raw0, nilv) := by
      rw [hG]
      simp only
      rw [List.getElem?_append_right (by simp [rowsI]; omega), show (rowsI (I.take k)).length = k by simp [rowsI]; omega, List.getElem?_replicate, if_pos (by omega)]
    have hGs : G (k + 1) = (G k).set k (rowI (natI r)) := by
      rw [hG]
      simp only
      have e1 : rowsI (I.take (k + 1)) = rowsI (I.take k) ++ [rowI (natI r)] := by unfold rowsI; rw [take_snoc hr, List.map_append]; rfl
      rw [e1, List.set_append, if_neg (by simp [rowsI]; omega), show (rowsI (I.take k)).length = k by simp [rowsI]; omega, Nat.sub_self]
      have : n - k = (n - (k + 1)) + 1 := by omega
      rw [this, List.replicate_succ, List.set_cons_zero]
      simp
    have B4 : Blk W4 bl ((G (k + 1)).flatMap lcells) 69 := by
      have hb := u4.blk
      rw [hGs, ← fm_splice (k := 11) (n := 9) (o := 0) (vs := imC r) splice (by funext l o n vs; rfl) hGL hGk (by omega) (by
        rw [hcl]
        show wcells (natI r).1 ++ [.int .i64 ((natI r).2 : Nat), nilv, .int .i64 0] = [] ++ ((wcells (natI r).1 ++ [.int .i64 ((natI r).2 : Nat)]) ++ [nilv, .int .i64 0])
        simp)]
      rw [show k * 11 + 0 = 0 + k * 11 + 0 by omega]
      exact hb
    refine ⟨((k + 1 : Nat) : Int), by rw [w64 (by omega)]; omega, ?_⟩
    refine ⟨rfl, k + 1, ⟨rfl, rfl, rfl, rfl, trivial⟩, ⟨⟨hkn, fun x hx => ?_⟩, u4.ext ((tW.ext t2).ext t3) (by omega), B4⟩, by omega⟩
    rw [take_snoc hr] at hx
    rcases List.mem_append.1 hx with hx | hx
    · exact hgood x hx
    · obtain rfl : x = r := by simpa using hx
      exact hgr
  · have hkn : k = n := by omega
    have hGn : G k = rowsI I := by rw [hG, hkn, hn]; simp
    rw [hGn] at BW hGok
    rw [hkn, hn, List.take_length] at hgood
    have hok : okI I := ⟨by omega, by omega, hgood⟩
    intro bm W1 m1
    refine ⟨_, rfl, fun p W2 m2 => ?_⟩
    have em1 := m1.num; have em2 := m2.num; have zm1 := m1.size; have zm2 := m2.size
    have hpn : ∀ r ∈ rowsI I, r.2 = nilv ∧ r.1.pend = [] := fun r hr => by
      obtain ⟨x, _, rfl⟩ := List.mem_map.1 hr
      exact ⟨rfl, rfl⟩
    have hfoot : foot p bl bm (rowsI I) nilv = [p, bl, bm] := foot_nil fun r hr => (hpn r hr).1
    have hgs := hg.size
    have hlen : (rowsI I).length = n := by rw [hn]; simp [rowsI]
    refine ⟨(tW.ext m1.tr).ext m2.tr, .inr ⟨hok, p, bl, bm, rfl, ⟨⟨?_, (BW.ext m1.tr).ext m2.tr, fun r hr => ?_, ⟨[], World.ownsRow_nil _ _ _ _⟩, hGok, ?_, ?_, by omega, by omega⟩, ?_⟩, fun b hb => ?_⟩⟩
    · rw [hlen]
      exact m2.blk
    · obtain ⟨h2, h3⟩ := hpn r hr
      rw [h2, h3]
      exact World.ownsRow_nil _ _ _ _
    · rw [hfoot]
      simp
      omega
    · rw [hfoot]
      intro b hb
      simp at hb
      omega
    · exact ((IM.new m1).tr m2.tr (by simp)).congr fun k => (busy_none (fun r hr => (hpn r hr).2) k).symm
    · rw [hfoot] at hb
      simp at hb
      omega

end

end Go.Proofs.YtlfolinjajjgjaaDoor

/- The specification's From; Right of alumref13. -/
namespace Go.Proofs.YtlfolinjajjgjaaDoor
open Go.E

theorem word04_calls (x : Int) (w : World) : Calls cx.P 82 #[.int .i64 x] w (Ret fun v w' => v = .bool (wordI x) ∧ w = w') := by
  refine calls_body cx_ok (args := [.int .i64 x]) Tryd.func82 rfl 9 rfl rfl [.tmp 2] rfl ?_
  refine ⟨fun h0 => ⟨fun h1 => ?_, fun h1 => ?_⟩, fun h0 => ?_⟩
  · exact ⟨by simp [wordI, h0, h1], rfl⟩
  · exact ⟨by simp [wordI, h1], rfl⟩
  · exact ⟨by simp [wordI, h0], rfl⟩

section
variable {w : World}

theorem Words04_calls (xs : List Int) (h8 : xs.length = 8) : Calls cx.P 67 #[.agg (i64s xs).toArray] w (Ret fun v w' => v = .bool (xs.all wordI) ∧ Tr [] w w') := by
  refine calls_body cx_ok (args := [.agg (i64s xs).toArray]) Tryd.func67 rfl 13 rfl rfl [.tmp 2] rfl ?_
  intro b w1 n1
  have B : Blk w1 b (i64s xs) 46 := n1.blk
  refine loop_rule cx_ok (fun k W => (k ≤ 8 ∧ ∀ i x, i < k → xs[i]? = some x → wordI x = true) ∧ w1 = W) (fun k : Nat => [(1, .pointer (some ⟨b, 0, none⟩)), (3, .int .i64 k)]) (fun k => 8 - k) 0 ⟨rfl, rfl, trivial⟩ ⟨⟨by omega, fun i x hi => by omega⟩, rfl⟩ ?_
  rintro k _ ⟨⟨hk, hyes⟩, rfl⟩
  refine ⟨fun hlt => ?_, fun hge => ?_⟩
  · have hk8 : k < 8 := by omega
    obtain ⟨x, hx⟩ : ∃ x, xs[k]? = some x := ⟨_, List.getElem?_eq_getElem (by omega)⟩
    refine ⟨k, rfl, hk8, _, B.cell (by rw [show 0 + k * 1 = k by omega]; exact i64s_get hx), ?_⟩
    refine call (word04_calls x w1) ?_
    rintro _ _ ⟨rfl, rfl⟩
    cases hwx : wordI x with
    | false =>
      refine ⟨?_, n1.tr⟩
      have : xs.all wordI = false := by
        rw [List.all_eq_false]
        exact ⟨x, List.mem_of_getElem? hx, by rw [hwx]; decide⟩
      rw [this]; rfl
    | true =>
      refine ⟨((k + 1 : Nat) : Int), by rw [w64 (by omega)]; omega, ?_⟩
      refine ⟨rfl, k + 1, ⟨rfl, rfl, trivial⟩, ⟨⟨by omega, fun i y hi hy => ?_⟩, rfl⟩, by omega⟩
      by_cases hik : i = k
      · subst hik
        rw [hx] at hy
        obtain rfl := Option.some.inj hy
        exact hwx
      · exact hyes i y (by omega) hy
  · refine ⟨?_, n1.tr⟩
    have : xs.all wordI = true := by
      rw [List.all_eq_true]
      intro x hx
      obtain ⟨i, hi⟩ := List.mem_iff_getElem?.1 hx
      have := (List.getElem?_eq_some_iff.1 hi).1
      exact hyes i x (by omega) hi
    rw [this]; rfl

theorem Right04_calls (I : List (List Int × Int)) (v : Value) (h : ImgR w v I) (hok : okI I) : Calls cx.P 44 #[v] w (Ret fun v w' => v = .bool true ∧ Tr [] w w') := by
  obtain ⟨a, c, rfl, h8, hcs⟩ := h
  obtain ⟨h1, h4, hgood⟩ := hok
  obtain ⟨g, o, rfl, hc⟩ := hcs.resolve_left (by omega)
  refine calls_body cx_ok (args := [.slice (some ⟨g, o, none⟩) I.length c]) Tryd.func44 rfl 41 rfl rfl [.tmp 2] rfl ?_
  refine loop_rule cx_ok (fun k W => k ≤ I.length ∧ Tr [] w W) (fun k : Nat => [(0, .slice (some ⟨g, o, none⟩) I.length c), (3, .int .i64 k)]) (fun k => I.length - k) 0 ⟨rfl, rfl, trivial⟩ ⟨by omega, Tr.refl _ _⟩ ?_
  rintro k W ⟨hk, tW⟩
  refine ⟨fun hlt => ?_, fun hge => ?_⟩
  · have hkn : k < I.length := by omega
    obtain ⟨r, hr⟩ : ∃ r, I[k]? = some r := ⟨_, List.getElem?_eq_getElem hkn⟩
    have hrm := List.mem_of_getElem? hr
    have hr8 := h8 r hrm
    have hgr := hgood r hrm
    unfold goodI at hgr
    rw [Bool.and_eq_true] at hgr
    have hcr := of_decide_eq_true hgr.2
    have hc9 : ∀ W, Tr [] w W → Cells W g (o + k * 9) (imC r) := fun W t => (imC_at h8 hr hc).ext t
    have himc : imC r = i64s r.1 ++ [.int .i64 r.2] := by simp [imC, i64s]
    have hc8 : Cells W g (o + k * 9 + 0) (i64s r.1) := fun j v hv => hc9 W tW j v (by
      rw [himc, List.getElem?_append_left (List.getElem?_eq_some_iff.1 hv).1]
      exact hv)
    have hcd : ∀ W, Tr [] w W → W.cell? ⟨g, o + k * 9 + 8, none⟩ = some (.int .i64 r.2) := fun W t => hc9 W t 8 _ (by
      rw [himc]
      exact get_tail 8 (by simp [i64s, hr8]) 0)
    refine ⟨k, rfl, hkn, i64s r.1, hc8, by simp [i64s, hr8], ?_⟩
    refine call (Words04_calls r.1 hr8) ?_
    rintro _ W1 ⟨hv, t1⟩
    rw [hgr.1] at hv
    subst hv
    have t1' := tW.ext t1
    refine ⟨k, rfl, hkn, _, hcd W1 t1', fun h => absurd h (by omega), fun _ => ⟨k, rfl, hkn, _, hcd W1 t1', fun h => absurd h (by omega), fun _ => ?_⟩⟩
    refine ⟨((k + 1 : Nat) : Int), by rw [w64 (by omega)]; omega, ?_⟩
    exact ⟨rfl, k + 1, ⟨rfl, rfl, trivial⟩, ⟨hkn, t1'⟩, by omega⟩
  · refine ⟨fun _ => ⟨fun _ => ?_, fun h => absurd h (by omega)⟩, fun h => absurd h (by omega)⟩
    exact ⟨rfl, tW⟩

theorem line_fill (ws : List Nat) (h8 : ws.length = 8) (c : Nat) : fillL ([(0, 8), (8, 1), (9, 1), (10, 1)][·]?) [.int .i64 0, .int .i64 0, .int .i64 0, .int .i64 0, .int .i64 0, .int .i64 0, .int .i64 0, .int .i64 0, .int .i64 0, .slice none 0 0, .int .i64 0] [(0, .agg (wcells ws).toArray), (1, .int .i64 (c : Nat))] = some (lcells (rowI (ws, c))) := by
  match ws, h8 with
  | [a, b, c', d, e, f, g, h], _ => rfl

set_option maxHeartbeats 2000000 in
theorem From04_calls (I : List (List Int × Int)) (v : Value) (h : ImgR w v I) (hg : Gl w) (hok : okI I) :
    Calls cx.P 22 #[v] w (Ret fun x w' => Tr [] w w' ∧ ∃ p lv, x = .pointer (some ⟨p, 0, none⟩) ∧ RX w' p (rowsI I) lv nilv 0 0 ∧ ∀ b ∈ rfoot p (rowsI I) lv nilv, w.heap.size ≤ b) := by
  have himg := h
  obtain ⟨a, c, rfl, h8, hcs⟩ := h
  obtain ⟨h1, h4, hgood⟩ := id hok
  obtain ⟨g, o, rfl, hc⟩ := hcs.resolve_left (by omega)
  refine calls_body cx_ok (args := [.slice (some ⟨g, o, none⟩) I.length c]) Tryd.func22 rfl 40 rfl rfl [.tmp 2] rfl ?_
  refine ⟨_, rfl, fun p w1 n1 => ?_⟩
  have e1 := n1.num; have z1 := n1.size
  have B1 : Blk w1 p [.slice none 0 0, .int .i64 0, nilv] 98 := n1.blk
  refine call (Right04_calls I _ (himg.ext n1.tr) hok) ?_
  rintro _ w2 ⟨rfl, t2⟩
  have z2 := t2.size
  have hgs := hg.size
  refine loop_rule cx_ok (α := Nat × Value) (fun (⟨k, lv⟩ : Nat × Value) W => k ≤ I.length ∧ Tr [] w W ∧ Blk W p [lv, .int .i64 0, nilv] 98 ∧ Row W 101 11 lv k ((rowsI (I.take k)).flatMap lcells) ∧ ∀ b, lv.ownBlock = some b → p < b)
    (fun (⟨k, lv⟩ : Nat × Value) => [(0, .slice (some ⟨g, o, none⟩) I.length c), (3, .pointer (some ⟨p, 0, none⟩)), (4, .bool true), (5, .int .i64 k)]) (fun x => I.length - x.1) (0, .slice none 0 0) ⟨rfl, rfl, rfl, rfl, trivial⟩
    ⟨by omega, n1.tr.ext t2, B1.ext t2, World.ownsRow_nil _ _ _ _, fun b hb => by simp [Value.ownBlock] at hb⟩ ?_
  rintro ⟨k, lv⟩ W ⟨hk, tW, BW, hrow, hown⟩
  have zW := tW.size
  refine ⟨fun hlt => ?_, fun hge => ?_⟩
  · have hkn : k < I.length := by omega
    obtain ⟨r, hr⟩ : ∃ r, I[k]? = some r := ⟨_, List.getElem?_eq_getElem hkn⟩
    have hrm := List.mem_of_getElem? hr
    have hr8 := h8 r hrm
    have hgr := hgood r hrm
    have hcl := good_cells hgr
    have hln := good_line hr8 hgr
    have hc9 : Cells W g (o + k * 9) (ilc (natI r)) := by rw [← hcl]; exact (imC_at h8 hr hc).ext tW
    have hc8 : Cells W g (o + k * 9 + 0) (wcells (natI r).1) := fun j v hv => hc9 j v (by
      unfold ilc
      rw [List.getElem?_append_left (List.getElem?_eq_some_iff.1 hv).1]
      exact hv)
    have hcd : W.cell? ⟨g, o + k * 9 + 8, none⟩ = some (.int .i64 ((natI r).2 : Nat)) := hc9 8 _ (get_tail 8 (wcells_len hln.1) 0)
    obtain ⟨alv, clv, rfl⟩ := Row.slice hrow
    obtain ⟨X, hX⟩ : ∃ X : List Nat, X = (Value.slice alv k clv).ownBlock.toList := ⟨_, rfl⟩
    have hXm : ∀ b ∈ X, w.heap.size ≤ b ∧ p < b := fun b hb => by
      have := hown b (by rw [hX] at hb; simpa using hb)
      exact ⟨by omega, this⟩
    have hgX : g ∉ X := fun hm => by
      have h0 := hXm g hm
      have := cell_lt (hc 0 _ (by
        have : (I.flatMap imC)[0 * 9 + 0]? = some (.int .i64 (I[0].1[0]'(by rw [h8 _ (List.getElem_mem (by omega))]; omega))) := fm_get (k := 9) (fun r hr => imC_len (h8 r hr)) (List.getElem?_eq_getElem (by omega)) (by
          unfold imC i64s
          rw [List.getElem?_map, List.getElem?_append_left (by rw [h8 _ (List.getElem_mem (by omega))]; omega), List.getElem?_eq_getElem (by rw [h8 _ (List.getElem_mem (by omega))]; omega)]
          rfl)
        exact this))
      omega
    have hpX : p ∉ X := fun hm => by have := hXm p hm; omega
    refine draw_rule cx_ok X (Plan.takes [0, 1, 2, 3, 4, 5, 6, 7, 8, 9, 10, 11, 12, 13, 14, 15] (.one true 16 (.one true 17 (.one true 18 (.one true 19 (.one false 20 .done)))))) (by kernel_rfl) ?_
    intro W1 d
    refine ⟨_, fun w' t => t.cell (BW.cell rfl) hpX, k, rfl, hkn, _, fun w' t => hc8.tr t hgX, wcells_len hln.1, k, rfl, hkn, _, fun w' t => t.cell hcd hgX, ?_⟩
    refine ⟨_, line_fill (natI r).1 hln.1.len (natI r).2, ?_⟩
    refine ⟨⟨lcells (rowI (natI r)), fill_one rfl (lcells_len (rowI_ok hln)), fun b16 W2 n2 => ?_⟩, trivial⟩
    have e2 := n2.num; have z2' := n2.size
    have t12 : Tr [] W W2 := d.tr.ext n2.tr
    refine ⟨t12.of_ext, ?_⟩
    have hone : (lcells (rowI (natI r))).all E.one = true := by simp [lcells, wcells, E.one, rowI, nilv]
    refine ⟨?_, trivial⟩
    refine append_own cx_ok (x := ⟨1, 24, false, [.slice none 0 0], .slice 101⟩) rfl rfl rfl (by decide) (Row.tr hrow t12 (by simp)) b16 0 1 1 (lcells (rowI (natI r))) (lcells_len (rowI_ok hln)) n2.blk.all hone (by omega) (by decide) ?_
    intro v3 W3 hr3 t3 hat _
    have t3X : Tr X W W3 := by rw [hX]; exact t12.of_ext.trans t3 (fun _ h => h) (fun _ h _ => h)
    have hown3 : ∀ b, v3.ownBlock = some b → p < b := fun b hb => by
      rcases hat with e | e
      · exact hown b (e ▸ hb)
      · rw [e] at hb; have := Option.some.inj hb; have := BW.lt; have := t12.size; omega
    refine ⟨t3X, ⟨t3X, ⟨t3X, ⟨⟨_, _, BW.tr t3X hpX, by show 0 < 3; decide, Row.one hr3, fun W4 u4 => ?_⟩, trivial⟩⟩, trivial⟩, trivial⟩
    refine ⟨((k + 1 : Nat) : Int), by rw [w64 (by omega)]; omega, ?_⟩
    have z3 := t3X.size
    refine ⟨rfl, (k + 1, v3), ⟨rfl, rfl, rfl, rfl, trivial⟩, ⟨hkn, ?_, u4.blk, ?_, hown3⟩, by show I.length - (k + 1) < I.length - k; omega⟩
    · exact (tW.trans t3X (fun _ h => h) (fun b hb hlt => by have := (hXm b hb).1; omega)).trans u4.tr (fun _ h => h) (fun b hb hlt => by simp at hb; omega)
    · have : rowsI (I.take (k + 1)) = rowsI (I.take k) ++ [rowI (natI r)] := by unfold rowsI; rw [take_snoc hr, List.map_append]; rfl
      rw [this, List.flatMap_append, List.flatMap_cons, List.flatMap_nil, List.append_nil]
      exact Row.tr hr3 u4.tr (fun b hb hm => by have := hown3 b hb; simp at hm; omega)
  · have hkn : k = I.length := by omega
    rw [hkn, List.take_length] at hrow
    have hpn : ∀ r ∈ rowsI I, r.2 = nilv ∧ r.1.pend = [] ∧ r.1.Ok := fun r hr => by
      obtain ⟨x, hx, rfl⟩ := List.mem_map.1 hr
      exact ⟨rfl, rfl, rowI_ok (good_line (h8 x hx) (hgood x hx))⟩
    have hlen : (rowsI I).length = I.length := by simp [rowsI]
    have hfoot : rfoot p (rowsI I) lv nilv = p :: lv.ownBlock.toList := by
      have : (rowsI I).flatMap own2 = [] := by
        rw [List.flatMap_eq_nil_iff]
        intro r hr
        unfold own2
        rw [(hpn r hr).1]; rfl
      unfold rfoot
      rw [this]
      simp [nilv, Value.ownBlock]
    refine ⟨tW, p, lv, rfl, ⟨BW, by rw [hlen]; exact hrow, fun r hr => ?_, ⟨[], World.ownsRow_nil _ _ _ _⟩, fun r hr => (hpn r hr).2.2, ?_, fun b hb => ?_, by omega⟩, fun b hb => ?_⟩
    · obtain ⟨h2, h3, _⟩ := hpn r hr
      rw [h2, h3]
      exact World.ownsRow_nil _ _ _ _
    · rw [hfoot]
      cases ho : lv.ownBlock with
      | none => simp
      | some b =>
        have := hown b ho
        simp; omega
    · rw [hfoot] at hb
      simp at hb
      rcases hb with rfl | hb
      · omega
      · have := hown b hb; omega
    · rw [hfoot] at hb
      simp at hb
      rcases hb with rfl | hb
      · omega
      · have := hown b hb; omega

end

end Go.Proofs.YtlfolinjajjgjaaDoor

/- The specification's Read of the slots. -/
namespace Go.Proofs.YtlfolinjajjgjaaDoor
open Go.E

theorem rdTo_small {f : Nat → Option (List Nat)} (hf : ∀ i ws, f i = some ws → ws.length = 8) : ∀ n S, rdTo f n = some S → S.length ≤ n ∧ ∀ s ∈ S, s.blocks.length ≤ 6
  | 0, S, h => by cases h; simp
  | n + 1, S, h => by
    unfold rdTo at h
    split at h
    · rename_i S0 ws h1 h2
      cases h
      have ih := rdTo_small hf n S0 h1
      have hl := slotOf_len n ws
      refine ⟨by rw [List.length_append]; omega, fun s hs => ?_⟩
      rcases List.mem_append.1 hs with hs | hs
      · exact ih.2 s hs
      · unfold slotOf at hs
        split at hs
        · cases hs
        · simp at hs
          rw [hs]
          exact blocks_le (hf n ws h2)
    · cases h

theorem takeWhile_stop {l : List Nat} {m : Nat} (h1 : ∀ x ∈ l.take m, x ≠ 0) (h2 : m = l.length ∨ l[m]? = some 0) : l.takeWhile (fun x => x != 0) = l.take m := by
  have hl : l = l.take m ++ l.drop m := (List.take_append_drop m l).symm
  conv => lhs; rw [hl]
  rw [List.takeWhile_append_of_pos (fun x hx => by simpa using h1 x hx)]
  rcases h2 with h2 | h2
  · rw [h2, List.drop_length]; simp
  · have hm := (List.getElem?_eq_some_iff.1 h2).1
    rw [List.drop_eq_getElem_cons hm, (List.getElem?_eq_some_iff.1 h2).2, List.takeWhile_cons]
    simp

def errOf : Option (List Sl) → Int
  | some _ => 0
  | none => 9

def lstOf (o : Option (List Sl)) : List Sl := o.getD []

theorem SlW.sld {w : World} {v : Value} {Z : List (Sl × Value)} {m : Nat} (h : SlW w v Z) (hm : ∀ b ∈ sblocks v Z, m ≤ b) (hn : Z.length ≤ 1048576) (hb : ∀ z ∈ Z, z.1.blocks.length ≤ 1048576) : SlD w v Z (fun b => m ≤ b ∧ b < w.heap.size) :=
  ⟨hn, (Row.slid h.row).mono fun b hbv => ⟨hm b (in_sv hbv), Row.lt h.row hbv⟩, fun z hz => ⟨hb z hz, (Row.slid (h.blk z hz)).mono fun b hbv => ⟨hm b (in_sz hz hbv), Row.lt (h.blk z hz) hbv⟩⟩⟩

structure R13 where
  i : Nat
  ov : Value
  Z : List (Sl × Value)

section
variable {w : World} {p : Nat} {rows : List (Ln × Value)} {lv evv : Value} {span nev : Nat}

set_option maxHeartbeats 4000000 in
theorem Read13_calls (h : RX w p rows lv evv span nev) {lc : List Value} {from_ n : Nat} (hl : LayC lc from_ n) (hfit : from_ + n ≤ rows.length) (hn : n ≤ 64) :
    Calls cx.P 21 #[.pointer (some ⟨p, 0, none⟩), .agg lc.toArray] w (Ret fun v w' => Tr [] w w' ∧ ∃ sv, v = .agg #[sv, .int .i64 (errOf (rdTo (shf rows from_) n))] ∧ E.one sv = true ∧ ∃ Z, Z.map (·.1) = lstOf (rdTo (shf rows from_) n) ∧ SlD w' sv Z (fun b => w.heap.size ≤ b ∧ b < w'.heap.size)) := by
  have hsm := h.small
  have hf8 : ∀ i ws, shf rows from_ i = some ws → ws.length = 8 := fun i ws hws => by
    unfold shf at hws
    obtain ⟨r, hr, hs⟩ := Option.bind_eq_some_iff.1 hws
    exact ((h.ok r (List.mem_of_getElem? hr)).shows hs).len
  refine calls_body cx_ok (args := [.pointer (some ⟨p, 0, none⟩), .agg lc.toArray]) Tryd.func21 rfl 75 rfl rfl [.cell 4 34] rfl ?_
  intro b3 w1 n1 b4 w2 n2
  have e1 := n1.num; have e2 := n2.num; have z1 := n1.size; have z2 := n2.size
  have B3 : Blk w2 b3 lc 27 := (show Blk w1 b3 lc _ from n1.blk).ext n2.tr
  have B4 : Blk w2 b4 [.slice none 0 0, .int .i64 0] 34 := n2.blk
  have t02 := n1.tr.ext n2.tr
  refine loop_rule cx_ok (α := R13) (fun x W => x.i ≤ n ∧ Tr [] w2 W ∧ SlW W x.ov x.Z ∧ rdTo (shf rows from_) x.i = some (x.Z.map (·.1)) ∧ ∀ b ∈ sblocks x.ov x.Z, w2.heap.size ≤ b)
    (fun x => [(0, .pointer (some ⟨p, 0, none⟩)), (3, .pointer (some ⟨b3, 0, none⟩)), (4, .pointer (some ⟨b4, 0, none⟩)), (5, x.ov), (6, .int .i64 x.i)]) (fun x => n - x.i) ⟨0, .slice none 0 0, []⟩
    ⟨rfl, rfl, rfl, rfl, rfl, trivial⟩ ⟨by show 0 ≤ n; omega, Tr.refl _ _, SlW.nil _, rfl, fun b hb => by simp [sblocks, Value.ownBlock] at hb⟩ ?_
  rintro ⟨i, ov, Z⟩ Wi ⟨hi, tWi, hZ, hrd, hfr⟩
  simp only at hi tWi hZ hrd hfr
  have zWi := tWi.size
  have C3 := B3.ext tWi
  have t0i := t02.ext tWi
  refine ⟨_, C3.cell hl.c4, fun hlt => ?_, fun hge => ?_⟩
  · have hin : i < n := by have : ((i : Nat) : Int) < (n : Int) := hlt; omega
    have hw : IntKind.i64.wrap ((i : Int) + 1) = ((i + 1 : Nat) : Int) := by rw [w64 (by omega)]; omega
    obtain ⟨r, hr⟩ : ∃ r, rows[from_ + i]? = some r := ⟨_, List.getElem?_eq_getElem (by omega)⟩
    have hok := h.ok r (List.mem_of_getElem? hr)
    have hsh : shf rows from_ i = shr r := by unfold shf; rw [hr]; rfl
    intro b7 W1 n7
    have e7 := n7.num; have z7 := n7.size
    have B7 : Blk W1 b7 (wcells zeros8) 46 := n7.blk
    obtain ⟨o, ho⟩ : ∃ o, o = shr r := ⟨_, rfl⟩
    have ho8 : ∀ ws, o = some ws → Line8 ws := fun ws hws => hok.shows (k := r.1.pend.length) (by rw [← hws, ho]; rfl)
    refine loop_rule cx_ok (fun k W => k ≤ 8 ∧ Tr [] Wi W ∧ Blk W b7 (wcells (part8 o k)) 46 ∧ (o = none → k = 0)) (fun k : Nat => [(0, .pointer (some ⟨p, 0, none⟩)), (3, .pointer (some ⟨b3, 0, none⟩)), (4, .pointer (some ⟨b4, 0, none⟩)), (5, ov), (6, .int .i64 i), (7, .pointer (some ⟨b7, 0, none⟩)), (8, .int .i64 k)]) (fun k => 8 - k) 0
      ⟨rfl, rfl, rfl, rfl, rfl, rfl, rfl, trivial⟩ ⟨by omega, n7.tr, by rcases o with _ | ws <;> exact B7, fun _ => rfl⟩ ?_
    rintro k W ⟨hk, tW, BW, hok0⟩
    have zW := tW.size
    refine ⟨fun hk8 => ?_, fun hk8 => ?_⟩
    · have hk8' : k < 8 := by omega
      refine ⟨_, (C3.ext tW).cell hl.c3, ((from_ + i : Nat) : Int), by rw [w64 (by omega)]; omega, ((8 * (from_ + i) : Nat) : Int), by rw [w64 (by omega)]; omega, ((8 * (from_ + i) + k : Nat) : Int), by rw [w64 (by omega)]; omega, ?_⟩
      refine call (Load04_calls ((h.ext t0i).ext tW) (from_ + i) k hk8' hr) ?_
      rintro v W3 ⟨hv, t3⟩
      rw [← ho] at hv
      rcases o with _ | ws
      · subst hv
        refine ⟨fun h => absurd h (by decide), fun _ => ?_⟩
        have tW3 := tW.ext t3
        have hnone : rdTo (shf rows from_) n = none := rdTo_none (by rw [hsh, ← ho]) n hin
        refine ⟨_, rfl, _, _, (B4.ext tWi).ext tW3, rfl, by show 0 + 2 ≤ 2; decide, rfl, fun W4 u4 => ?_⟩
        rw [hnone]
        exact ⟨_, u4.blk.all, rfl, u4.ext (t0i.ext tW3) (by omega), _, rfl, rfl, [], rfl, SlD.nil _ _⟩
      · subst hv
        have h8 := ho8 ws rfl
        have hp8 : (part8 (some ws) k).length = 8 := by simp [part8, h8.len, zeros8]; omega
        obtain ⟨x, hx, hx40, hgd, hxc⟩ := h8.at hk8'
        refine ⟨fun _ => ?_, fun h => absurd rfl h⟩
        refine ⟨k, rfl, hk8', _, _, BW.ext t3, by rw [show (wcells (part8 (some ws) k)).length = 8 by simp [wcells, hp8]]; show 0 + k * 1 < 8; omega, rfl, fun W4 u4 => ?_⟩
        have B4' : Blk W4 b7 ((wcells (part8 (some ws) k)).set (0 + k * 1) (.int .i64 (ws.getD k 0 : Nat))) 46 := u4.blk
        rw [show 0 + k * 1 = k by omega, ← wcells_set, show (part8 (some ws) k).set k (ws.getD k 0) = part8 (some ws) (k + 1) from by
          have hlk : k < ws.length := by rw [h8.len]; exact hk8'
          have hx' : ws[k] = x := (List.getElem?_eq_some_iff.1 hx).2
          unfold part8
          simp only
          rw [hgd, List.set_append, if_neg (by simp; omega), List.length_take, Nat.min_eq_left (by omega), Nat.sub_self, List.take_succ_eq_append_getElem hlk, hx', List.drop_eq_getElem_cons (l := zeros8) (i := k) hk8', List.set_cons_zero]
          simp] at B4'
        refine ⟨((k + 1 : Nat) : Int), by rw [w64 (by omega)]; omega, ?_⟩
        exact ⟨rfl, k + 1, ⟨rfl, rfl, rfl, rfl, rfl, rfl, rfl, trivial⟩, ⟨by omega, u4.ext (tW.ext t3) (by omega), B4', fun h => by cases h⟩, by omega⟩
    · obtain rfl : k = 8 := by omega
      rcases o with _ | ws
      · exact absurd (hok0 rfl) (by decide)
      have h8 := ho8 ws rfl
      have hpe : part8 (some ws) 8 = ws := by
        unfold part8
        simp only
        rw [List.take_of_length_le (by rw [h8.len]; exact Nat.le_refl _)]
        simp [zeros8]
      rw [hpe] at BW
      have hrd1 : rdTo (shf rows from_) (i + 1) = some (Z.map (·.1) ++ slotOf i ws) := by
        show (match rdTo (shf rows from_) i, shf rows from_ i with | some S, some ws => some (S ++ slotOf i ws) | _, _ => none) = _
        rw [hrd, hsh, ← ho]
      obtain ⟨w0, _, _, hg0, hc0⟩ := h8.at (k := 0) (by decide)
      obtain ⟨w1', _, _, hg1, hc1⟩ := h8.at (k := 1) (by decide)
      have k0 : ∀ W', Tr [] W W' → W'.cell? ⟨b7, 0 + 0 * 1, none⟩ = some (.int .i64 (w0 : Nat)) := fun W' t => (BW.ext t).cell hc0
      have k1 : ∀ W', Tr [] W W' → W'.cell? ⟨b7, 0 + 1 * 1, none⟩ = some (.int .i64 (w1' : Nat)) := fun W' t => (BW.ext t).cell hc1
      refine ⟨0, rfl, by decide, _, k0 W (Tr.refl _ _), fun hz => ?_, fun hz => ?_⟩
      · have hz' : ws.getD 0 0 = 0 := by rw [hg0]; have : ((w0 : Nat) : Int) = 0 := hz; omega
        have hso : slotOf i ws = [] := by unfold slotOf; rw [if_pos hz']
        rw [hso, List.append_nil] at hrd1
        exact ⟨_, hw, rfl, ⟨i + 1, ov, Z⟩, ⟨rfl, rfl, rfl, rfl, rfl, trivial⟩, ⟨hin, tWi.ext tW, hZ.ext tW, hrd1, hfr⟩, by show n - (i + 1) < n - i; omega⟩
      have hz' : ws.getD 0 0 ≠ 0 := by rw [hg0]; have : ¬ ((w0 : Nat) : Int) = 0 := hz; omega
      have hso : slotOf i ws = [⟨i, w0, w1', blocksOf ws⟩] := by unfold slotOf; rw [if_neg hz', hg0, hg1]
      refine ⟨0, rfl, by decide, _, k0 W (Tr.refl _ _), 1, rfl, by decide, _, k1 W (Tr.refl _ _), _, rfl, fun b11 W2 n11 => ?_⟩
      have e11 := n11.num; have z11 := n11.size
      refine ⟨_, _, n11.blk, rfl, by show 0 + 4 ≤ 4; decide, rfl, fun W3 u3 => ?_⟩
      have z3 := u3.size
      have tW3 : Tr [] W W3 := u3.ext n11.tr (by omega)
      have ti3 : Tr [] Wi W3 := tW.ext tW3
      have B11 : Blk W3 b11 (zcells (⟨i, w0, w1', []⟩, .slice none 0 0)) 54 := Upd.whole u3 rfl rfl
      have B7' := BW.ext tW3
      have hb7 : Wi.heap.size ≤ b7 := by omega
      have hb711 : b7 < b11 := by have := BW.lt; omega
      -- the blocks
      refine loop_rule cx_ok (α := Nat × Value) (fun (⟨m, bv⟩ : Nat × Value) W' => m ≤ 6 ∧ (∀ x ∈ (ws.drop 2).take m, x ≠ 0) ∧ Tr [] Wi W' ∧ Blk W' b7 (wcells ws) 46 ∧ Blk W' b11 (zcells (⟨i, w0, w1', []⟩, bv)) 54 ∧ Row W' 3 1 bv m (icells ((ws.drop 2).take m)) ∧ ∀ b, bv.ownBlock = some b → b11 < b)
        (fun (⟨m, bv⟩ : Nat × Value) => [(0, .pointer (some ⟨p, 0, none⟩)), (3, .pointer (some ⟨b3, 0, none⟩)), (4, .pointer (some ⟨b4, 0, none⟩)), (5, ov), (6, .int .i64 i), (7, .pointer (some ⟨b7, 0, none⟩)), (11, .pointer (some ⟨b11, 0, none⟩)), (12, .int .i64 (2 + m : Nat))]) (fun x => 6 - x.1) (0, .slice none 0 0)
        ⟨rfl, rfl, rfl, rfl, rfl, rfl, rfl, rfl, trivial⟩ ⟨by omega, by simp, ti3, B7', B11, World.ownsRow_nil _ _ _ _, fun b hb => by simp [Value.ownBlock] at hb⟩ ?_
      rintro ⟨m, bv⟩ W' ⟨hm, hnz, tW', D7, D11, hrow, hown⟩
      have zW' := tW'.size
      -- behind the loop
      obtain ⟨z, hz⟩ : ∃ z : Sl × Value, z = (⟨i, w0, w1', blocksOf ws⟩, bv) := ⟨_, rfl⟩
      have hzc : zcells (⟨i, w0, w1', []⟩, bv) = zcells z := by rw [hz]; rfl
      have hbvo := Row.one hrow
      have fin : (ws.drop 2).take m = blocksOf ws → ∀ (b15 : Nat) (W4 : World), New W' b15 (.cells (zcells z).toArray 54) W4 → ∀ (K : Value → World → Prop), (∀ v' W5, SlW W5 v' (Z ++ [z]) → Tr [] w2 W5 → (∀ b ∈ sblocks v' (Z ++ [z]), w2.heap.size ≤ b) → K v' W5) →
            RunV cx.P (Builtin.append_ #[29, 29] 29 #[ov, .slice (some ⟨b15, 0, none⟩) 1 1]) W4 K := by
        intro hbs b15 W4 n15 K hK
        have e15 := n15.num; have z15 := n15.size
        have hZ4 := (hZ.ext tW').ext n15.tr
        have hml : m = (blocksOf ws).length := by rw [← hbs, List.length_take, List.length_drop, h8.len]; omega
        rw [hbs, hml] at hrow
        have hZl : Z.length ≤ 64 := by
          have := (rdTo_small hf8 i _ hrd).1
          rw [List.length_map] at this
          omega
        refine append_own cx_ok (x := ⟨1, 24, false, [.slice none 0 0], .slice 54⟩) rfl rfl rfl (by decide) hZ4.row b15 0 1 1 (zcells z) rfl n15.blk.all (by rw [hz]; exact zcells_one hbvo) (by omega) (by decide) ?_
        intro v' W5 hr5 t5 hat _
        have hovlt : ∀ b, ov.ownBlock = some b → b < Wi.heap.size := fun b hb => Row.lt hZ.row hb
        have hsn : SlW W5 v' (Z ++ [z]) := SlW.snoc hZ4 (z := z) (by rw [hz]; exact Row.tr hrow n15.tr (by simp)) (fun b hb ho => by
          rw [hz] at hb
          have h1 := hown b hb
          have h2 := hovlt b ho
          omega) hr5 t5 hat
        have tt : Tr [] w2 W5 := ((tWi.ext tW').ext n15.tr).trans t5 (fun _ h => h) (fun b hb hlt => by
          have := hfr b (in_sv (by simpa using hb)); omega)
        refine hK v' W5 hsn tt fun b hb => ?_
        simp only [sblocks, List.mem_append, List.flatMap_append, List.flatMap_cons, List.flatMap_nil, List.append_nil] at hb
        rcases hb with hb | hb | hb
        · have hb' : v'.ownBlock = some b := by simpa using hb
          rcases hat with e | e
          · exact hfr b (in_sv (e ▸ hb'))
          · rw [e] at hb'; have := Option.some.inj hb'; omega
        · obtain ⟨y, hy, hyb⟩ := List.mem_flatMap.1 hb
          exact hfr b (in_sz hy (by simpa [ownZ] using hyb))
        · have := hown b (by rw [hz] at hb; simpa [ownZ] using hb)
          omega
      have hk2 : ∀ (hlt : m < 6), ∃ x, (ws.drop 2)[m]? = some x ∧ (wcells ws)[2 + m]? = some (.int .i64 (x : Nat)) := fun hlt => by
        obtain ⟨x, hx, _, _, hxc⟩ := h8.at (k := 2 + m) (by omega)
        exact ⟨x, by rw [List.getElem?_drop]; exact hx, hxc⟩
      have hlen6 : (ws.drop 2).length = 6 := by rw [List.length_drop, h8.len]
      have out : ∀ (v' : Value) (W5 : World), SlW W5 v' (Z ++ [z]) → Tr [] w2 W5 → (∀ b ∈ sblocks v' (Z ++ [z]), w2.heap.size ≤ b) →
          (i + 1 ≤ n ∧ Tr [] w2 W5 ∧ SlW W5 v' (Z ++ [z]) ∧ rdTo (shf rows from_) (i + 1) = some ((Z ++ [z]).map (·.1)) ∧ ∀ b ∈ sblocks v' (Z ++ [z]), w2.heap.size ≤ b) := by
        intro v' W5 h1 h2 h3
        refine ⟨hin, h2, h1, ?_, h3⟩
        rw [hrd1, hso, List.map_append, hz]
        rfl
      have hc11 : ∀ (W : World), Blk W b11 (zcells (⟨i, w0, w1', []⟩, bv)) 54 → Cells W b11 0 (zcells z) := fun W hB => by rw [← hzc]; exact hB.all
      refine ⟨fun hlt => ?_, fun hge => ?_⟩
      · have hm6 : m < 6 := by omega
        obtain ⟨x, hx, hxc⟩ := hk2 hm6
        have kx : W'.cell? ⟨b7, 0 + (2 + m) * 1, none⟩ = some (.int .i64 (x : Nat)) := by
          rw [show 0 + (2 + m) * 1 = 2 + m by omega]
          exact D7.cell hxc
        refine ⟨2 + m, rfl, by omega, _, kx, fun hx0 => ?_, fun hxn => ?_⟩
        · have hx0' : x = 0 := by omega
          have hbs : (ws.drop 2).take m = blocksOf ws := (takeWhile_stop hnz (.inr (by rw [hx, hx0']))).symm
          refine ⟨zcells z, hc11 W' D11, rfl, zcells z, fill_one rfl rfl, fun b15 W4 n15 => ?_⟩
          refine fin hbs b15 W4 n15 _ fun v' W5 h1 h2 h3 => ?_
          exact ⟨_, hw, rfl, ⟨i + 1, v', _⟩, ⟨rfl, rfl, rfl, rfl, rfl, trivial⟩, out v' W5 h1 h2 h3, by show n - (i + 1) < n - i; omega⟩
        · have hxn' : x ≠ 0 := fun e => hxn (by rw [e]; rfl)
          obtain ⟨X, hX⟩ : ∃ X : List Nat, X = bv.ownBlock.toList := ⟨_, rfl⟩
          have hXm : ∀ b ∈ X, b11 < b := fun b hb => hown b (by rw [hX] at hb; simpa using hb)
          have hnot : ∀ b, b ≤ b11 → b ∉ X := fun b hb hm => by have := hXm b hm; omega
          refine draw_rule cx_ok X (Plan.takes [0, 1, 2, 3, 4] (.one true 5 (.one true 6 (.one true 7 (.one false 8 .done))))) (by kernel_rfl) ?_
          intro W4 d
          refine ⟨_, fun w' t => t.cell (D11.cell rfl) (hnot _ (Nat.le_refl _)), 2 + m, rfl, by omega, _, fun w' t => t.cell kx (hnot _ (by omega)), ?_⟩
          refine ⟨⟨_, rfl, fun b16 W5 n16 => ?_⟩, trivial⟩
          have e16 := n16.num; have z16 := n16.size
          have t5 : Tr [] W' W5 := d.tr.ext n16.tr
          have B16 : Blk W5 b16 [.int .i64 (x : Nat)] 3 := n16.blk
          refine ⟨t5.of_ext, ?_⟩
          refine ⟨?_, trivial⟩
          refine append_own cx_ok (x := ⟨1, 24, false, [.slice none 0 0], .slice 3⟩) (y := ⟨1, 8, false, [.int .i64 0], .int .i64⟩) rfl rfl rfl (by decide) (Row.tr hrow t5 (by simp)) b16 0 1 1 [.int .i64 (x : Nat)] rfl B16.all rfl (by omega) (by decide) ?_
          intro bv' W6 hr6 t6 hat _
          have t6X : Tr X W' W6 := by rw [hX]; exact t5.of_ext.trans t6 (fun _ h => h) (fun _ h _ => h)
          have hown' : ∀ b, bv'.ownBlock = some b → b11 < b := fun b hb => by
            rcases hat with e | e
            · exact hown b (e ▸ hb)
            · rw [e] at hb; have := Option.some.inj hb; have := D11.lt; have := t5.size; omega
          refine ⟨t6X, ⟨t6X, ⟨⟨_, _, D11.tr t6X (hnot _ (Nat.le_refl _)), by show 0 + 3 < 4; decide, Row.one hr6, fun W7 u7 => ?_⟩, trivial⟩⟩, trivial⟩
          refine ⟨((2 + (m + 1) : Nat) : Int), by rw [w64 (by omega)]; omega, ?_⟩
          have htk : (ws.drop 2).take (m + 1) = (ws.drop 2).take m ++ [x] := take_snoc hx
          refine ⟨rfl, (m + 1, bv'), ⟨rfl, rfl, rfl, rfl, rfl, rfl, rfl, rfl, trivial⟩, ⟨hm6, fun y hy => ?_, ?_, ?_, ?_, ?_, hown'⟩, by show 6 - (m + 1) < 6 - m; omega⟩
          · rw [htk] at hy
            rcases List.mem_append.1 hy with hy | hy
            · exact hnz y hy
            · simp at hy; rw [hy]; exact hxn'
          · exact (tW'.trans t6X (fun _ h => h) (fun b hb hlt => by have := hXm b hb; omega)).trans u7.tr (fun _ h => h) (fun b hb hlt => by simp at hb; omega)
          · exact (D7.tr t6X (hnot _ (by omega))).tr u7.tr (by simp; omega)
          · exact u7.blk
          · rw [htk]
            have : icells ((ws.drop 2).take m ++ [x]) = icells ((ws.drop 2).take m) ++ [.int .i64 (x : Nat)] := by simp [icells]
            rw [this]
            exact Row.tr hr6 u7.tr (fun b hb hm => by have := hown' b hb; simp at hm; omega)
      · have hm6 : m = 6 := by omega
        have hbs : (ws.drop 2).take m = blocksOf ws := (takeWhile_stop hnz (.inl (by rw [hlen6, hm6]))).symm
        refine ⟨zcells z, hc11 W' D11, rfl, zcells z, fill_one rfl rfl, fun b15 W4 n15 => ?_⟩
        refine fin hbs b15 W4 n15 _ fun v' W5 h1 h2 h3 => ?_
        exact ⟨_, hw, rfl, ⟨i + 1, v', _⟩, ⟨rfl, rfl, rfl, rfl, rfl, trivial⟩, out v' W5 h1 h2 h3, by show n - (i + 1) < n - i; omega⟩
  · have hin : i = n := by have : ¬ ((i : Nat) : Int) < (n : Int) := hge; omega
    rw [hin] at hrd
    rw [hrd]
    obtain ⟨ao, co, rfl⟩ := Row.slice hZ.row
    refine ⟨_, rfl, _, _, B4.ext tWi, rfl, by show 0 + 2 ≤ 2; decide, rfl, fun W4 u4 => ?_⟩
    have hsmall := rdTo_small hf8 n _ hrd
    have hZl : Z.length ≤ n := by have := hsmall.1; rw [List.length_map] at this; exact this
    have hZ4 := hZ.tr u4.tr fun b hb hm => by
      have := hfr b hm
      simp at hb
      omega
    refine ⟨_, u4.blk.all, rfl, u4.ext t0i (by omega), _, rfl, rfl, Z, rfl, (hZ4.sld hfr (by omega) fun z hz => ?_).mono fun b hb => ⟨by omega, hb.2⟩⟩
    have := hsmall.2 z.1 (List.mem_map.2 ⟨z, hz, rfl⟩)
    omega

end

end Go.Proofs.YtlfolinjajjgjaaDoor

/- IntentReadsAsSpecified: what the law's function returns. -/
namespace Go.Proofs.YtlfolinjajjgjaaDoor
open Go.E

theorem ptr_nil0 {t e : Nat} {x : TI} (ht : tget cx.tb t = some x) (hx : cx.P.underlying t = some (.pointer e)) (p q : Operand) (w : World) :
    (do eqGuard .eql t p q (.pointer none) (.pointer none); binOp .eql t (.pointer none) (.pointer none) : Sem Value).run cx.P w = .ok (.bool true) w := by
  have hu : (underlying t).run cx.P w = .ok (.pointer e) w := by simp [underlying, hx]
  have he : (Op.equal t (.pointer none) (.pointer none)).run cx.P w = .ok true w := by
    show (Op.equalIn (9999 + 1) t (.pointer none) (.pointer none)).run cx.P w = _
    unfold Op.equalIn
    simp only [Sem.run_bind, hu, Result.andThen_ok]
    rfl
  simp [eqGuard, binOp, he]

def layI (L a b I N c d e : Int) : List Int := [L, a, b, I, N, c, d, e]
def rightL (L I N lines : Int) : Prop := 0 ≤ I ∧ I ≤ 4096 ∧ 1 ≤ N ∧ N ≤ 64 ∧ I + N ≤ L ∧ L = lines
instance (L I N lines : Int) : Decidable (rightL L I N lines) := by unfold rightL; infer_instance

section
variable {w : World}

theorem Right13_calls (L a b I N c d e : Int) (lines : Int) :
    Calls cx.P 20 #[.agg (i64s (layI L a b I N c d e)).toArray, .int .i64 lines] w (Ret fun v w' => v = .bool (decide (rightL L I N lines)) ∧ Tr [] w w') := by
  refine calls_body cx_ok (args := [.agg (i64s (layI L a b I N c d e)).toArray, .int .i64 lines]) Tryd.func20 rfl 39 rfl rfl [.tmp 4] rfl ?_
  intro b2 w1 n1
  have B : Blk w1 b2 (i64s (layI L a b I N c d e)) 27 := n1.blk
  have no : ¬ rightL L I N lines → pack [Value.bool false] = .bool (decide (rightL L I N lines)) ∧ Tr [] w w1 := fun h => ⟨by rw [decide_eq_false h]; rfl, n1.tr⟩
  refine ⟨_, B.cell rfl, fun h1 => ⟨_, B.cell rfl, fun h2 => ⟨_, B.cell rfl, fun h3 => ⟨_, B.cell rfl, fun h4 => ?_, fun h4 => ?_⟩, fun h3 => ?_⟩, fun h2 => ?_⟩, fun h1 => ?_⟩
  · refine ⟨_, B.cell rfl, _, B.cell rfl, I + N, by rw [w64 (by omega)], _, B.cell rfl, fun h5 => ⟨_, B.cell rfl, fun h6 => ?_, fun h6 => ?_⟩, fun h5 => ?_⟩
    · exact ⟨by rw [decide_eq_true (show rightL L I N lines from ⟨h1, h2, h3, h4, h5, h6⟩)]; rfl, n1.tr⟩
    · exact no fun h => h6 h.2.2.2.2.2
    · exact no fun h => h5 h.2.2.2.2.1
  · exact no fun h => h4 h.2.2.2.1
  · exact no fun h => h3 h.2.2.1
  · exact no fun h => h2 h.2.1
  · exact no fun h => h1 h.1

theorem layI_ok {L a b I N c d e : Int} (h0 : 0 ≤ I) (h1 : 0 ≤ N) : LayC (i64s (layI L a b I N c d e)) I.toNat N.toNat :=
  ⟨rfl, rfl, by show some (Value.int .i64 I) = _; rw [Int.toNat_of_nonneg h0], by show some (Value.int .i64 N) = _; rw [Int.toNat_of_nonneg h1]⟩

set_option maxRecDepth 100000 in
set_option maxHeartbeats 4000000 in
theorem IntentReads_calls (hg : Gl w) (J : List (List Int × Int)) (v : Value) (himg : ImgR w v J) (L a b I N c d e : Int) :
    Calls cx.P 5 #[v, .agg (i64s (layI L a b I N c d e)).toArray] w (Ret fun v w' => v = .bool true ∧ Tr [] w w') := by
  have himg0 := himg
  obtain ⟨av, cv, rfl, h8, _⟩ := himg
  refine calls_body cx_ok (args := [.slice av J.length cv, .agg (i64s (layI L a b I N c d e)).toArray]) Tryd.func5 rfl 78 rfl rfl [.tmp 4] rfl ?_
  intro b3 w1 n1
  have e1 := n1.num; have z1 := n1.size
  have B3 : Blk w1 b3 (i64s (layI L a b I N c d e)) 27 := n1.blk
  have hg1 := hg.ext n1.tr
  refine call (From_calls J _ (himg0.ext n1.tr) hg1) ?_
  rintro x w2 ⟨t2, ⟨rfl, _⟩ | ⟨hok, p, bl, bm, rfl, hm, hfr⟩⟩
  · refine ⟨.bool true, w2, ptr_nil0 (t := 23) rfl under_mem _ _ _, ?_⟩
    refine call (sanity_calls w2 (hg1.ext t2)) ?_
    rintro _ w3 ⟨rfl, t3⟩
    exact ⟨rfl, (n1.tr.ext t2).ext t3⟩
  have t02 := n1.tr.ext t2
  have hg2 := hg1.ext t2
  refine ⟨.bool false, w2, ptr_nil (t := 23) rfl under_mem _ _ _ _, fun h12 => ?_, fun h12 => ?_⟩
  · refine call (sanity_calls w2 hg2) ?_
    rintro _ w3 ⟨rfl, t3⟩
    exact ⟨rfl, t02.ext t3⟩
  refine ⟨_, (B3.ext t2).all, rfl, ?_⟩
  refine call (Right13_calls L a b I N c d e J.length) ?_
  rintro _ w3 ⟨rfl, t3⟩
  by_cases hR : rightL L I N J.length
  · rw [decide_eq_true hR]
    obtain ⟨hR1, hR2, hR3, hR4, hR5, hR6⟩ := hR
    have hl : LayC (i64s (layI L a b I N c d e)) I.toNat N.toNat := layI_ok hR1 (by omega)
    obtain ⟨from_, hfr_⟩ : ∃ from_, from_ = I.toNat := ⟨_, rfl⟩
    obtain ⟨n, hn⟩ : ∃ n, n = N.toNat := ⟨_, rfl⟩
    rw [← hfr_, ← hn] at hl
    have hrl : (rowsI J).length = J.length := by simp [rowsI]
    have hfit : from_ + n ≤ (rowsI J).length := by rw [hrl]; omega
    have t23 := t2.ext t3
    have hm3 := hm.ext t3
    have hg3 := hg2.ext t3
    refine ⟨_, (B3.ext t23).all, rfl, ?_⟩
    refine call (Read_calls hm3.toMemX hg3 _ from_ n hl.len hl.one hl.c3 hl.c4 hfit) ?_
    rintro v4 w4 ⟨t4, hq4⟩
    have hf8 : ∀ i ws, shf (rowsI J) from_ i = some ws → ws.length = 8 := fun i ws hws => by
      unfold shf at hws
      obtain ⟨r, hr, hs⟩ := Option.bind_eq_some_iff.1 hws
      exact ((hm.ok r (List.mem_of_getElem? hr)).shows hs).len
    obtain ⟨o, ho⟩ : ∃ o, o = rdTo (shf (rowsI J) from_) n := ⟨_, rfl⟩
    have hsmall : (lstOf o).length ≤ 64 ∧ ∀ s ∈ lstOf o, s.blocks.length ≤ 6 := by
      cases o with
      | none => simp [lstOf]
      | some S =>
        have := rdTo_small hf8 n S ho.symm
        exact ⟨by show S.length ≤ 64; omega, this.2⟩
    -- what the program's Read says
    obtain ⟨sv4, hv4, hs4⟩ : ∃ sv4, v4 = .tuple #[sv4, .int .i64 (errOf o)] ∧ SlR w4 sv4 (lstOf o) := by
      rw [← ho] at hq4
      cases o with
      | none => exact ⟨_, hq4, none, 0, rfl, by simp [lstOf], .inl ⟨rfl, rfl⟩⟩
      | some S =>
        obtain ⟨sv, Z, hv, hZ, hZS, _⟩ := hq4
        exact ⟨sv, hv, hZ.slr hZS (by have := hsmall.1; have h : lstOf (some S) = S := rfl; rw [h] at this; omega) fun s hs => by have := hsmall.2 s hs; omega⟩
    subst hv4
    have t34 := t3.ext t4
    have t24 := t23.ext t4
    have t04 := t02.ext t34
    have hg4 := hg3.ext t4
    have C3 := B3.ext t24
    have himg4 := himg0.ext t04
    refine cut_rule (α := Nat) (fun b8 => [(3, .pointer (some ⟨b3, 0, none⟩)), (5, .pointer (some ⟨p, 0, none⟩)), (6, sv4), (7, .int .i64 (errOf o)), (8, .pointer (some ⟨b8, 0, none⟩))])
      (fun b8 W => Tr [] w4 W ∧ ∃ sv, Blk W b8 [sv, .int .i64 (errOf o)] 34 ∧ SlR W sv (lstOf o)) ?_ ?_
    · refine draw_rule cx_ok [] (Plan.takes [0, 2] (.alt true 1 (.alt true 3 (.one true 4 (.one true 5 .done)) (.alt true 4 (.one true 3 (.one true 5 .done)) .stop)) (.alt true 4 (.one true 1 (.one true 3 (.one true 5 .done))) .stop))) (by kernel_rfl) ?_
      intro w5 dd
      have h5 : Tr [] w4 w5 := dd.tr
      refine ⟨_, fun w' t => C3.all.tr t (by simp), rfl, ?_⟩
      -- the last store
      have fin : ∀ (W : World) (b8 : Nat) (sv : Value) (Z : List (Sl × Value)) (D : Nat → Prop), Tr [] w4 W → w4.heap.size ≤ b8 → Blk W b8 [.slice none 0 0, .int .i64 0] 34 → Z.map (·.1) = lstOf o → SlD W sv Z D → ¬ D b8 → E.one sv = true →
          ∃ l T, Blk W b8 l T ∧ [sv, Value.int .i64 (errOf o)].length = 2 ∧ 0 + 2 ≤ l.length ∧ [sv, Value.int .i64 (errOf o)].all E.one = true ∧ ∀ W', Upd W b8 (.cells (splice l 0 2 [sv, .int .i64 (errOf o)]).toArray T) W' →
            (Tr [] w4 W' ∧ ∃ sv, Blk W' b8 [sv, .int .i64 (errOf o)] 34 ∧ SlR W' sv (lstOf o)) := by
        intro W b8 sv Z D tW hb8 hB hZ hs hD hone
        refine ⟨_, _, hB, rfl, by show 0 + 2 ≤ 2; decide, by show (E.one sv && (true && true)) = true; rw [hone]; rfl, fun W' u => ⟨u.ext tW hb8, sv, Upd.whole u rfl rfl, ?_⟩⟩
        have := (hs.tr u.tr (fun b hb => by simp at hb; rw [hb]; exact hD)).slr
        rw [hZ] at this
        exact this
      have h45 := h5.size
      refine ⟨?_, ?_, trivial⟩
      · refine call (From04_calls J _ (himg4.ext h5) (hg4.ext h5) hok) ?_
        rintro _ w6 ⟨t6, rp, rlv, rfl, hrx, _⟩
        have h6 := h5.ext t6
        have h46 := h6.size
        refine ⟨h6, ?_⟩
        refine ⟨?_, ?_, trivial⟩
        · refine call (Read13_calls hrx hl hfit (by omega)) ?_
          rintro _ w7 ⟨t7, sv, rfl, hone, Z, hZ, hsl⟩
          rw [← ho] at hZ ⊢
          have h7 := h6.ext t7
          have h47 := h7.size
          refine ⟨h7, ?_⟩
          refine ⟨fun b8 w8 n8 => ?_, trivial⟩
          have e8 := n8.num
          refine ⟨h7.ext n8.tr, ?_⟩
          refine ⟨?_, trivial⟩
          obtain ⟨l, T, hB, h1, h2, h3, hK⟩ := fin w8 b8 sv Z _ (h7.ext n8.tr) (by omega) n8.blk hZ (hsl.ext n8.tr) (by omega) hone
          refine ⟨l, T, hB, h1, h2, h3, fun W' u => ?_⟩
          obtain ⟨k1, k2⟩ := hK W' u
          exact ⟨k1, rfl, b8, ⟨rfl, rfl, rfl, rfl, rfl, trivial⟩, k1, k2⟩
        · intro b8 w7 n7
          have e7 := n7.num; have z7 := n7.size
          have h7 := h6.ext n7.tr
          refine ⟨h7, ?_⟩
          refine ⟨?_, trivial⟩
          refine call (Read13_calls (hrx.ext n7.tr) hl hfit (by omega)) ?_
          rintro _ w8 ⟨t8, sv, rfl, hone, Z, hZ, hsl⟩
          rw [← ho] at hZ ⊢
          have h8' := h7.ext t8
          refine ⟨h8', ?_⟩
          refine ⟨?_, trivial⟩
          obtain ⟨l, T, hB, h1, h2, h3, hK⟩ := fin w8 b8 sv Z _ h8' (by omega) (n7.blk.ext t8) hZ hsl (by omega) hone
          refine ⟨l, T, hB, h1, h2, h3, fun W' u => ?_⟩
          obtain ⟨k1, k2⟩ := hK W' u
          exact ⟨k1, rfl, b8, ⟨rfl, rfl, rfl, rfl, rfl, trivial⟩, k1, k2⟩
      · intro b8 w6 n6
        have e6 := n6.num; have z6 := n6.size
        have h6 := h5.ext n6.tr
        refine ⟨h6, ?_⟩
        refine ⟨?_, trivial⟩
        refine call (From04_calls J _ (himg4.ext h6) (hg4.ext h6) hok) ?_
        rintro _ w7 ⟨t7, rp, rlv, rfl, hrx, _⟩
        have h7 := h6.ext t7
        have z7 := t7.size
        refine ⟨h7, ?_⟩
        refine ⟨?_, trivial⟩
        refine call (Read13_calls hrx hl hfit (by omega)) ?_
        rintro _ w8 ⟨t8, sv, rfl, hone, Z, hZ, hsl⟩
        rw [← ho] at hZ ⊢
        have h8' := h7.ext t8
        refine ⟨h8', ?_⟩
        refine ⟨?_, trivial⟩
        obtain ⟨l, T, hB, h1, h2, h3, hK⟩ := fin w8 b8 sv Z _ h8' (by omega) ((show Blk w6 b8 [.slice none 0 0, .int .i64 0] _ from n6.blk).ext (t7.ext t8)) hZ hsl (by omega) hone
        refine ⟨l, T, hB, h1, h2, h3, fun W' u => ?_⟩
        obtain ⟨k1, k2⟩ := hK W' u
        exact ⟨k1, rfl, b8, ⟨rfl, rfl, rfl, rfl, rfl, trivial⟩, k1, k2⟩
    rintro b8 w5 ⟨t5, sv, B8, hsv⟩
    have C3' := C3.ext t5
    have hm5 := (hm3.ext t4).ext t5
    have hg5 := hg4.ext t5
    have t05 := t04.ext t5
    refine ⟨_, C3'.all, rfl, ?_⟩
    refine call (Free_calls hm5.toMemX hg5 hl hfit (by omega)) ?_
    rintro v6 w6 ⟨t6, hv6⟩
    rw [← ho] at hv6
    have B8' := B8.ext t6
    have hs4' := hs4.ext (t5.ext t6)
    have hsv' := hsv.ext t6
    have t06 := t05.ext t6
    have hg6 := hg5.ext t6
    have hSm := hsmall.1
    have hlen : ∃ a c, sv = .slice a (lstOf o).length c := by obtain ⟨a, c, h, _⟩ := hsv; exact ⟨a, c, h⟩
    obtain ⟨asv, csv, rfl⟩ := hlen
    have hlN : (i64s (layI L a b I N c d e))[4]? = some (.int .i64 (n : Nat)) := hl.c4
    cases o with
    | none =>
      subst hv6
      refine ⟨_, B8'.cell rfl, fun h => absurd h (by show ¬ ((9 : Int) = 0); decide), fun _ => ?_⟩
      refine call (sanity_calls w6 hg6) ?_
      rintro _ w7 ⟨rfl, t7⟩
      refine ⟨_, (B8'.ext t7).cell rfl, fun _ => ?_, fun h => absurd rfl h⟩
      refine ⟨_, (B8'.ext t7).cell rfl, ?_⟩
      refine call (Same_calls w7 _ _ _ _ (hs4'.ext t7) (hsv'.ext t7)) ?_
      rintro _ w8 ⟨hv, t8⟩
      rw [decide_eq_true rfl] at hv
      subst hv
      refine ⟨fun _ => ?_, fun h => absurd rfl h⟩
      refine ⟨_, ((B8'.ext t7).ext t8).cell rfl, fun _ => ?_, fun h => absurd rfl h⟩
      exact ⟨rfl, (t06.ext t7).ext t8⟩
    | some S =>
      subst hv6
      have hSl : S.length ≤ 64 := hSm
      refine ⟨_, B8'.cell rfl, fun _ => ?_, fun h => absurd rfl h⟩
      refine ⟨_, (C3'.ext t6).cell hlN, _, B8'.cell rfl, ((n : Int) - S.length), by show IntKind.i64.wrap ((n : Int) - (S.length : Nat)) = _; rw [w64 (by omega)], ?_⟩
      refine call (sanity_calls w6 hg6) ?_
      rintro _ w7 ⟨rfl, t7⟩
      refine ⟨_, (B8'.ext t7).cell rfl, fun _ => ?_, fun h => absurd rfl h⟩
      refine ⟨_, (B8'.ext t7).cell rfl, ?_⟩
      refine call (Same_calls w7 _ _ _ _ (hs4'.ext t7) (hsv'.ext t7)) ?_
      rintro _ w8 ⟨hv, t8⟩
      rw [decide_eq_true rfl] at hv
      subst hv
      refine ⟨fun _ => ?_, fun h => absurd rfl h⟩
      refine ⟨_, ((B8'.ext t7).ext t8).cell rfl, fun _ => ?_, fun h => absurd rfl h⟩
      exact ⟨rfl, (t06.ext t7).ext t8⟩
  · rw [decide_eq_false hR]
    refine call (sanity_calls w3 (hg2.ext t3)) ?_
    rintro _ w4 ⟨rfl, t4⟩
    exact ⟨rfl, (t02.ext t3).ext t4⟩

end

end Go.Proofs.YtlfolinjajjgjaaDoor
