/- Part 3 of the proof: EL, S2, Q4, S3, K0, K1, K2, K3, K4, K5, K6, K7, K8, K9, N0, N1 -/
import Derived.Test.YthepaakejpbppaaGreatDoorZ7b77601f
import Derived.ChangeKeysEq
import Derived.Test.YthepaakejpbppaaGreatDoorZ2bc50c71

/- The calculus E, part L: equality of arrays and structs of integers. -/
namespace Go.E

def flatFs (f : Nat → Option Nat) : List Field → Nat → Option Nat
  | [], o => some o
  | g :: r, o => match f g.type with
    | some m => bif g.name != "_" && Nat.beq g.offset o then flatFs f r (o + m) else none
    | none => none

/-- How many integers a type consists of. -/
def flatN (P : Program) : Nat → Nat → Option Nat
  | 0, _ => none
  | d + 1, t => match P.info? t, P.underlying t with
    | some i, some (.int .i64) => bif Nat.beq i.size 1 then some 1 else none
    | some i, some (.array n e) => match flatN P d e with
      | some m => bif Nat.beq i.size (n * m) then some (n * m) else none
      | none => none
    | some i, some (.struct fs) => match flatFs (flatN P d) fs.toList 0 with
      | some m => bif !P.stoodInHeld t && Nat.beq i.size m then some m else none
      | none => none
    | _, _ => none

def i64s (xs : List Int) : List Value := xs.map fun x => .int .i64 x
theorem i64s_len (xs : List Int) : (i64s xs).length = xs.length := by simp [i64s]

def vOf (P : Program) (t : Nat) (xs : List Int) : Value := match P.underlying t with
  | some (.int _) => .int .i64 (xs.headD 0)
  | _ => .agg (i64s xs).toArray

def notInt (P : Program) (t : Nat) : Bool := match P.underlying t with
  | some (.int _) => false
  | _ => true

section
variable {P : Program}

theorem flatN_info {d t m : Nat} (h : flatN P d t = some m) : ∃ i, P.info? t = some i ∧ i.size = m := by
  cases d with
  | zero => cases h
  | succ d =>
    unfold flatN at h
    split at h
    · rename_i i hi _
      cases hb : Nat.beq i.size 1 with
      | false => simp [hb] at h
      | true => simp [hb] at h; exact ⟨i, hi, by rw [Nat.eq_of_beq_eq_true hb, h]⟩
    · rename_i i n e hi _
      split at h
      · rename_i q _
        cases hb : Nat.beq i.size (n * q) with
        | false => simp [hb] at h
        | true => simp [hb] at h; exact ⟨i, hi, by rw [Nat.eq_of_beq_eq_true hb, h]⟩
      · cases h
    · rename_i i fs hi _
      split at h
      · rename_i q _
        cases hb : (!P.stoodInHeld t && Nat.beq i.size q) with
        | false => simp [hb] at h
        | true =>
          simp [hb] at h
          simp only [Bool.and_eq_true] at hb
          exact ⟨i, hi, by rw [Nat.eq_of_beq_eq_true hb.2, h]⟩
      · cases h
    · cases h

theorem flatN_kind {d t m : Nat} (h : flatN P d t = some m) : (P.underlying t = some (.int .i64) ∧ m = 1) ∨ (∃ n e, P.underlying t = some (.array n e)) ∨ (∃ fs, P.underlying t = some (.struct fs)) := by
  cases d with
  | zero => cases h
  | succ d =>
    unfold flatN at h
    split at h
    · rename_i i _ hu
      cases hb : Nat.beq i.size 1 with
      | false => simp [hb] at h
      | true => simp [hb] at h; exact .inl ⟨hu, h.symm⟩
    · rename_i hu; exact .inr (.inl ⟨_, _, hu⟩)
    · rename_i hu; exact .inr (.inr ⟨_, hu⟩)
    · cases h

theorem part_flat {d e m : Nat} (h : flatN P d e = some m) {xs : List Int} {off : Nat} (ho : off + m ≤ xs.length) (w : World) : (part e (i64s xs).toArray off).run P w = .ok (vOf P e ((xs.drop off).take m)) w := by
  obtain ⟨i, hi, hs⟩ := flatN_info h
  have hsz : (sizeOf e).run P w = .ok m w := by simp [sizeOf, typeInfo, hi, hs]
  have hex : ((i64s xs).toArray.extract off (off + m)) = (i64s ((xs.drop off).take m)).toArray := by
    apply Array.ext'
    rw [Array.toList_extract]
    simp [i64s, List.extract, List.map_take, List.map_drop]
  rcases flatN_kind h with ⟨hu, rfl⟩ | ⟨n, e', hu⟩ | ⟨fs, hu⟩
  · obtain ⟨x, hx⟩ : ∃ x, xs[off]? = some x := ⟨_, List.getElem?_eq_getElem (by omega)⟩
    have hget : (i64s xs).toArray[off]? = some (.int .i64 x) := by simp [i64s, hx]
    have hh : ((xs.drop off).take 1).headD 0 = x := by
      rw [List.drop_eq_getElem_cons (by omega)]
      have := (List.getElem?_eq_some_iff.1 hx).2
      simp [this]
    simp only [part, isAgg, Sem.run_bind, run_underlying hu, Result.andThen_ok, Sem.run_pure, Bool.false_eq_true, if_false, hget, vOf, hu, hh]
  · simp only [part, isAgg, Sem.run_bind, run_underlying hu, Result.andThen_ok, Sem.run_pure, if_true, hsz, hex, vOf, hu]
  · simp only [part, isAgg, Sem.run_bind, run_underlying hu, Result.andThen_ok, Sem.run_pure, if_true, hsz, hex, vOf, hu]

theorem take_drop_eq {xs ys : List Int} {o m : Nat} : (xs.drop o = ys.drop o) ↔ ((xs.drop o).take m = (ys.drop o).take m ∧ xs.drop (o + m) = ys.drop (o + m)) := by
  constructor
  · intro h
    have h2 := congrArg (List.drop m) h
    rw [List.drop_drop, List.drop_drop] at h2
    exact ⟨by rw [h], h2⟩
  · intro ⟨h1, h2⟩
    rw [← List.take_append_drop m (xs.drop o), ← List.take_append_drop m (ys.drop o), h1, List.drop_drop, List.drop_drop, h2]

/-- Equality. -/
theorem equalIn_flat : ∀ (d : Nat) (t m : Nat), flatN P d t = some m → ∀ (k : Nat) (xs ys : List Int) (w : World), xs.length = m → ys.length = m → (Op.equalIn (k + d) t (vOf P t xs) (vOf P t ys)).run P w = .ok (decide (xs = ys)) w
  | 0, _, _, h => by cases h
  | d + 1, t, m, h => by
    intro k xs ys w hx hy
    have ih := equalIn_flat d
    have hinfo := flatN_info h
    unfold flatN at h
    split at h
    · rename_i i hi hu
      cases hb : Nat.beq i.size 1 with
      | false => simp [hb] at h
      | true =>
        simp [hb] at h
        subst h
        match xs, ys, hx, hy with
        | [a], [b], _, _ =>
          simp only [vOf, hu, List.headD_cons]
          rw [show k + (d + 1) = (k + d) + 1 from rfl, run_equalIn_int w (k + d) t .i64 .i64 a b hu]
          congr 1
          by_cases hab : a = b <;> simp [hab]
    · rename_i i n e hi hu
      split at h
      · rename_i q hq
        cases hb : Nat.beq i.size (n * q) with
        | false => simp [hb] at h
        | true =>
          simp [hb] at h
          subst h
          obtain ⟨j, hj, hjs⟩ := flatN_info hq
          have hco : P.cellsOf e = q := by simp [Program.cellsOf, hj, hjs]
          simp only [vOf, hu]
          rw [show k + (d + 1) = (k + d) + 1 from rfl, run_equalIn_array w (k + d) _ _ hu hj, hco]
          have key : ∀ (c s : Nat), s + c = n → (Op.eqItems (k + d) e q (i64s xs).toArray (i64s ys).toArray (List.range' s c)).run P w = .ok (decide (xs.drop (s * q) = ys.drop (s * q))) w := by
            intro c
            induction c with
            | zero =>
              intro s hs
              have : s = n := by omega
              subst this
              rw [List.drop_of_length_le (by omega), List.drop_of_length_le (by omega)]
              simp [Op.eqItems]
            | succ c ihc =>
              intro s hs
              have hle : s * q + q ≤ n * q := by
                have := Nat.mul_le_mul_right q (show s + 1 ≤ n by omega)
                rw [Nat.add_mul] at this; omega
              rw [List.range'_succ]
              simp only [Op.eqItems, Sem.run_bind, part_flat hq (show s * q + q ≤ xs.length by omega), part_flat hq (show s * q + q ≤ ys.length by omega), Result.andThen_ok,
                ih e q hq k ((xs.drop (s * q)).take q) ((ys.drop (s * q)).take q) w (by simp; omega) (by simp; omega)]
              have htd := take_drop_eq (xs := xs) (ys := ys) (o := s * q) (m := q)
              by_cases h1 : (xs.drop (s * q)).take q = (ys.drop (s * q)).take q
              · rw [decide_eq_true h1]
                simp only [Bool.not_true, Bool.false_eq_true, if_false]
                rw [ihc (s + 1) (by omega), show (s + 1) * q = s * q + q by rw [Nat.add_mul]; omega]
                congr 1
                rw [decide_eq_decide, htd]
                simp [h1]
              · rw [decide_eq_false h1]
                simp only [Bool.not_false, if_true, Sem.run_pure]
                congr 1
                symm
                rw [decide_eq_false_iff_not, htd]
                exact fun hh => h1 hh.1
          have := key n 0 (by omega)
          rw [List.range_eq_range']
          simpa using this
      · cases h
    · rename_i i fs hi hu
      split at h
      · rename_i q hq
        cases hb : (!P.stoodInHeld t && Nat.beq i.size q) with
        | false => simp [hb] at h
        | true =>
          simp [hb] at h
          subst h
          simp only [Bool.and_eq_true, Bool.not_eq_true'] at hb
          have hfo : P.fieldsOf t = fs := by simp [Program.fieldsOf, hu]
          simp only [vOf, hu]
          rw [show k + (d + 1) = (k + d) + 1 from rfl, run_equalIn_struct w (k + d) t _ _ (by rw [hfo]; exact hu) hb.1, hfo]
          have key : ∀ (gs : List Field) (o : Nat), flatFs (flatN P d) gs o = some q → (Op.eqFields (k + d) (i64s xs).toArray (i64s ys).toArray gs).run P w = .ok (decide (xs.drop o = ys.drop o)) w ∧ o ≤ q := by
            intro gs
            induction gs with
            | nil =>
              intro o ho
              simp only [flatFs, Option.some.injEq] at ho
              subst ho
              rw [List.drop_of_length_le (by omega), List.drop_of_length_le (by omega)]
              exact ⟨by simp [Op.eqFields], Nat.le_refl _⟩
            | cons g r ihg =>
              intro o ho
              unfold flatFs at ho
              split at ho
              · rename_i m hm
                cases hb2 : (g.name != "_" && Nat.beq g.offset o) with
                | false => simp [hb2] at ho
                | true =>
                  simp only [hb2, cond_true] at ho
                  simp only [Bool.and_eq_true, bne_iff_ne, ne_eq] at hb2
                  have hof : g.offset = o := Nat.eq_of_beq_eq_true hb2.2
                  obtain ⟨h1, hle⟩ := ihg (o + m) ho
                  refine ⟨?_, by omega⟩
                  simp only [Op.eqFields, if_pos hb2.1, Sem.run_ite, Sem.run_bind, hof, part_flat hm (show o + m ≤ xs.length by omega), part_flat hm (show o + m ≤ ys.length by omega), Result.andThen_ok,
                    ih g.type m hm k ((xs.drop o).take m) ((ys.drop o).take m) w (by simp; omega) (by simp; omega)]
                  have htd := take_drop_eq (xs := xs) (ys := ys) (o := o) (m := m)
                  by_cases h2 : (xs.drop o).take m = (ys.drop o).take m
                  · rw [decide_eq_true h2]
                    simp only [Bool.not_true, Bool.false_eq_true, if_false]
                    rw [h1]
                    congr 1
                    rw [decide_eq_decide, htd]
                    simp [h2]
                  · rw [decide_eq_false h2]
                    simp only [Bool.not_false, if_true, Sem.run_pure]
                    congr 1
                    symm
                    rw [decide_eq_false_iff_not, htd]
                    exact fun hh => h2 hh.1
              · cases ho
          have := (key fs.toList 0 hq).1
          simpa using this
      · cases h
    · cases h

theorem eql_flat {t m d : Nat} (hd : d ≤ 10000) (hf : flatN P d t = some m) (hw : notInt P t = true) (hg : P.eqGuardType P.depth t = false) (x y : Operand) {cx cy : List Value} {xs ys : List Int} (hcx : cx = i64s xs) (hcy : cy = i64s ys)
    (hx : xs.length = m) (hy : ys.length = m) (w : World) {K : Value → World → Prop} (hK : K (.bool (decide (xs = ys))) w) : RunV P (do eqGuard .eql t x y (.agg cx.toArray) (.agg cy.toArray); binOp .eql t (.agg cx.toArray) (.agg cy.toArray)) w K := by
  subst hcx; subst hcy
  have hv : ∀ zs, vOf P t zs = .agg (i64s zs).toArray := fun zs => by
    unfold vOf
    split
    · rename_i hu; unfold notInt at hw; rw [hu] at hw; cases hw
    · rfl
  have h := equalIn_flat d t m hf (10000 - d) xs ys w hx hy
  rw [hv, hv, show 10000 - d + d = 10000 by omega] at h
  exact ⟨_, w, by rw [Sem.run_bind, run_eqGuard_agg w .eql t x y _ _ hg, Result.andThen_ok, run_eql_struct, h]; rfl, hK⟩

theorem neq_flat {t m d : Nat} (hd : d ≤ 10000) (hf : flatN P d t = some m) (hw : notInt P t = true) (hg : P.eqGuardType P.depth t = false) (x y : Operand) {cx cy : List Value} {xs ys : List Int} (hcx : cx = i64s xs) (hcy : cy = i64s ys)
    (hx : xs.length = m) (hy : ys.length = m) (w : World) {K : Value → World → Prop} (hK : K (.bool (!decide (xs = ys))) w) : RunV P (do eqGuard .neq t x y (.agg cx.toArray) (.agg cy.toArray); binOp .neq t (.agg cx.toArray) (.agg cy.toArray)) w K := by
  subst hcx; subst hcy
  have hv : ∀ zs, vOf P t zs = .agg (i64s zs).toArray := fun zs => by
    unfold vOf
    split
    · rename_i hu; unfold notInt at hw; rw [hu] at hw; cases hw
    · rfl
  have h := equalIn_flat d t m hf (10000 - d) xs ys w hx hy
  rw [hv, hv, show 10000 - d + d = 10000 by omega] at h
  exact ⟨_, w, by rw [Sem.run_bind, run_eqGuard_agg w .neq t x y _ _ hg, Result.andThen_ok, run_neq_struct, h]; rfl, hK⟩

end

end Go.E

/- Image, Pending; SameImage; SameInts. -/
namespace Go.Proofs.YthepaakejpbppaaGreatDoor
open Go.E

def ilc (r : List Nat × Nat) : List Value := wcells r.1 ++ [.int .i64 (r.2 : Nat)]

def iOf (r : Ln × Value) : List Nat × Nat := (r.1.ws, r.1.code)

theorem ilc_len {r : List Nat × Nat} (h : r.1.length = 8) : (ilc r).length = 9 := by simp [ilc, wcells, h]

theorem ilc_one (r : List Nat × Nat) : (ilc r).all E.one = true := by simp [ilc, wcells, E.one]

theorem ilc_ints (r : List Nat × Nat) : ilc r = i64s ((r.1 ++ [r.2]).map fun n : Nat => (n : Int)) := by simp [ilc, wcells, i64s]

theorem wcells_ints (ws : List Nat) : wcells ws = i64s (ws.map fun n : Nat => (n : Int)) := by simp [wcells, i64s]

theorem nats_eq {a b : List Nat} : (a.map fun n : Nat => (n : Int)) = (b.map fun n : Nat => (n : Int)) ↔ a = b := by
  exact List.map_inj_right (fun x y h => Int.ofNat.inj h)

theorem fm_at9 {L : List (List Nat × Nat)} (hL : ∀ r ∈ L, r.1.length = 8) {i : Nat} {r : List Nat × Nat} (hr : L[i]? = some r) {W : World} {g o : Nat} (hc : Cells W g o (L.flatMap ilc)) : Cells W g (o + i * 9) (ilc r) := fun j v hv => by
  rw [Nat.add_assoc]
  exact hc _ _ (fm_get (k := 9) (fun r hr => ilc_len (hL r hr)) hr hv)

section
variable {w : World}

set_option maxHeartbeats 1000000 in
theorem Image_calls {p bl bm : Nat} {rows : List (Ln × Value)} {evv : Value} {span nev : Nat} (h : MemX w p bl bm rows evv span nev) :
    Calls cx.P 38 #[.pointer (some ⟨p, 0, none⟩)] w (Ret fun v w' => Tr [] w w' ∧ ∃ bo, v = .slice (some ⟨bo, 0, none⟩) rows.length rows.length ∧ w.heap.size ≤ bo ∧ Blk w' bo ((rows.map iOf).flatMap ilc) 113) := by
  have hsm := h.small
  obtain ⟨n, hn⟩ : ∃ n, n = rows.length := ⟨_, rfl⟩
  refine calls_body cx_ok (args := [.pointer (some ⟨p, 0, none⟩)]) Tryz.func38 rfl 29 rfl rfl [.tmp 2] rfl ?_
  refine ⟨_, h.head.cell rfl, ?_⟩
  rw [← hn] at hsm ⊢
  refine ⟨n, n, rfl, rfl, Nat.le_refl _, ⟨by show n * 72 ≤ _; omega, by omega, rfl⟩, fun bo w1 n1 => ?_⟩
  have e1 := n1.num; have z1 := n1.size
  refine ⟨_, (h.head.ext n1.tr).cell rfl, ?_⟩
  rw [← hn]
  obtain ⟨I, hI⟩ : ∃ I, I = rows.map iOf := ⟨_, rfl⟩
  have hIl : I.length = n := by rw [hI, List.length_map, hn]
  have hI8 : ∀ r ∈ I, r.1.length = 8 := fun r hr => by
    rw [hI] at hr
    obtain ⟨x, hx, rfl⟩ := List.mem_map.1 hr
    exact (h.ok x hx).ws.len
  rw [← hI]
  obtain ⟨G, hG⟩ : ∃ G : Nat → List (List Nat × Nat), G = fun k => I.take k ++ List.replicate (n - k) (zeros8, 0) := ⟨_, rfl⟩
  have hG8 : ∀ k, ∀ r ∈ G k, r.1.length = 8 := fun k r hr => by
    rw [hG] at hr
    rcases List.mem_append.1 hr with hr | hr
    · exact hI8 r (List.mem_of_mem_take hr)
    · rw [List.eq_of_mem_replicate hr]; rfl
  have hGc : ∀ k, ∀ r ∈ G k, (ilc r).length = 9 := fun k r hr => ilc_len (hG8 k r hr)
  have hGl : ∀ k, k ≤ n → (G k).length = n := fun k hk => by rw [hG]; simp; omega
  have B0 : Blk w1 bo ((G 0).flatMap ilc) 113 := by
    have hb := n1.blk
    have : G 0 = List.replicate n (zeros8, 0) := by rw [hG]; simp
    rw [this, ← flatten_rep n _ (zeros8, 0) ilc rfl]
    exact hb
  refine loop_rule cx_ok (fun k W => k ≤ n ∧ Tr [] w W ∧ Blk W bo ((G k).flatMap ilc) 113) (fun k : Nat => [(3, .slice (some ⟨bo, 0, none⟩) n n), (15, .slice (some ⟨bl, 0, none⟩) n n), (16, .int .i64 n), (17, .int .i64 k)]) (fun k => n - k) 0
    ⟨rfl, rfl, rfl, rfl, trivial⟩ ⟨by omega, n1.tr, B0⟩ ?_
  rintro k W ⟨hk, tW, BW⟩
  have zW := tW.size
  have hboW := BW.lt
  refine ⟨fun hlt => ?_, fun hge => ?_⟩
  · have hkn : k < n := by omega
    obtain ⟨r, hr⟩ : ∃ r, rows[k]? = some r := ⟨_, List.getElem?_eq_getElem (by omega)⟩
    have hok := h.ok r (List.mem_of_getElem? hr)
    have hIr : I[k]? = some (iOf r) := by rw [hI, List.getElem?_map, hr]; rfl
    have hcl : Cells W bl (0 + k * 11) (lcells r) := fun j v hv => by rw [Nat.zero_add]; exact (h.ext tW).cell hr hv
    have hone : (lcells r).all E.one = true := by
      obtain ⟨av, cv, hv⟩ := Row.slice (h.pend r (List.mem_of_getElem? hr))
      simp [lcells, wcells, E.one, hv]
    refine ⟨k, rfl, hkn, lcells r, hcl, lcells_len hok, fun b5 W1 n5 => ?_⟩
    have e5 := n5.num; have z5 := n5.size
    refine ⟨_, _, n5.blk, lcells_len hok, by show 0 + 11 ≤ 11; decide, hone, fun W2 u2 => ?_⟩
    have z2 := u2.size
    have B5 : Blk W2 b5 (lcells r) 115 := Upd.whole u2 rfl (lcells_len hok)
    have t2 : Tr [] W W2 := u2.ext n5.tr (by omega)
    have hc9 : Cells W2 b5 (0 + 0) (ilc (iOf r)) := B5.cells 0 _ fun j v hv => by
      rw [Nat.zero_add]
      have : lcells r = ilc (iOf r) ++ [r.2, .int .i64 (r.1.mark : Nat)] := by simp [lcells, ilc, iOf]
      rw [this, List.getElem?_append_left (List.getElem?_eq_some_iff.1 hv).1]
      exact hv
    have B2 := BW.ext t2
    have hl9 : (ilc (iOf r)).length = 9 := ilc_len hok.ws.len
    refine ⟨ilc (iOf r), hc9, hl9, k, rfl, hkn, _, _, B2, hl9, by rw [fm_len (hGc k), hGl k hk]; show 0 + k * 9 + 9 ≤ _; omega, ilc_one _, fun W3 u3 => ?_⟩
    have hGk : (G k)[k]? = some (zeros8, 0) := by
      rw [hG]
      simp only
      rw [List.getElem?_append_right (by simp; omega), List.length_take, List.getElem?_replicate, if_pos (by omega)]
    have hGs : G (k + 1) = (G k).set k (iOf r) := by
      rw [hG]
      simp only
      rw [take_snoc hIr, List.set_append, if_neg (by simp; omega), List.length_take, Nat.min_eq_left (by omega), Nat.sub_self]
      have : n - k = (n - (k + 1)) + 1 := by omega
      rw [this, List.replicate_succ, List.set_cons_zero]
      simp
    have B3 : Blk W3 bo ((G (k + 1)).flatMap ilc) 113 := by
      have hb := u3.blk
      rw [hGs, ← fm_splice (k := 9) (n := 9) (o := 0) (vs := ilc (iOf r)) splice (by funext l o n vs; rfl) (hGc k) hGk (by omega) (by rw [splice_all (hGc k _ (List.mem_of_getElem? hGk)) hl9])]
      rw [show k * 9 + 0 = 0 + k * 9 by omega]
      exact hb
    refine ⟨((k + 1 : Nat) : Int), by rw [w64 (by omega)]; omega, ?_⟩
    exact ⟨rfl, k + 1, ⟨rfl, rfl, rfl, rfl, trivial⟩, ⟨hkn, u3.ext (tW.ext t2) (by omega), B3⟩, by omega⟩
  · have hkn : k = n := by omega
    have : G k = I := by rw [hG, hkn]; simp [← hIl]
    rw [this] at BW
    exact ⟨tW, bo, rfl, by omega, BW⟩

theorem flat_line : flatN cx.P 4 113 = some 9 := by kernel_rfl

theorem flat_words : flatN cx.P 4 69 = some 8 := by kernel_rfl

theorem guard_line : cx.P.eqGuardType cx.P.depth 113 = false := by kernel_rfl

theorem guard_words : cx.P.eqGuardType cx.P.depth 69 = false := by kernel_rfl

theorem wide_line : notInt cx.P 113 = true := by kernel_rfl

theorem wide_words : notInt cx.P 69 = true := by kernel_rfl

theorem SameImage_calls (L : List (List Nat × Nat)) (hL : ∀ r ∈ L, r.1.length = 8) (hn : L.length ≤ 4611686018427387904) (b1 b2 c1 c2 : Nat) (h1 : Cells w b1 0 (L.flatMap ilc)) (h2 : Cells w b2 0 (L.flatMap ilc)) :
    Calls cx.P 37 #[.slice (some ⟨b1, 0, none⟩) L.length c1, .slice (some ⟨b2, 0, none⟩) L.length c2] w (Ret fun v w' => v = .bool true ∧ Tr [] w w') := by
  refine calls_body cx_ok (args := [.slice (some ⟨b1, 0, none⟩) L.length c1, .slice (some ⟨b2, 0, none⟩) L.length c2]) Tryz.func37 rfl 26 rfl rfl [.tmp 4] rfl ?_
  refine ⟨fun _ => ?_, fun h => absurd rfl h⟩
  refine loop_rule cx_ok (fun k W => k ≤ L.length ∧ Tr [] w W) (fun k : Nat => [(0, .slice (some ⟨b1, 0, none⟩) L.length c1), (1, .slice (some ⟨b2, 0, none⟩) L.length c2), (5, .int .i64 k)]) (fun k => L.length - k) 0 ⟨rfl, rfl, rfl, trivial⟩ ⟨by omega, Tr.refl _ _⟩ ?_
  rintro k W ⟨hk, tW⟩
  refine ⟨fun hlt => ?_, fun hge => ?_⟩
  · have hkn : k < L.length := by omega
    obtain ⟨r, hr⟩ : ∃ r, L[k]? = some r := ⟨_, List.getElem?_eq_getElem hkn⟩
    have hc1 : Cells W b1 (0 + k * 9) (ilc r) := (fm_at9 hL hr h1).ext tW
    have hc2 : Cells W b2 (0 + k * 9) (ilc r) := (fm_at9 hL hr h2).ext tW
    have hl9 : (ilc r).length = 9 := ilc_len (hL r (List.mem_of_getElem? hr))
    refine draw_rule cx_ok [] (Plan.takes [0, 1, 2, 3, 4, 5, 6, 7] (.one true 8 .done)) (by kernel_rfl) ?_
    intro W1 d
    refine ⟨k, rfl, hkn, _, fun w' t => hc1.tr t (by simp), hl9, k, rfl, hkn, _, fun w' t => hc2.tr t (by simp), hl9, ?_⟩
    refine ⟨?_, trivial⟩
    refine neq_flat (d := 4) (by decide) flat_line wide_line guard_line _ _ (ilc_ints r) (ilc_ints r) (by simp [hL r (List.mem_of_getElem? hr)]) (by simp [hL r (List.mem_of_getElem? hr)]) W1 ?_
    rw [decide_eq_true rfl]
    refine ⟨d.tr, ?_⟩
    refine ⟨((k + 1 : Nat) : Int), by rw [w64 (by omega)]; omega, ?_⟩
    exact ⟨rfl, k + 1, ⟨rfl, rfl, rfl, trivial⟩, ⟨hkn, tW.ext d.tr⟩, by omega⟩
  · exact ⟨rfl, tW⟩

theorem clone_row_calls {s : Value} {n : Nat} {xs : List Value} (h : Row w 123 2 s n xs) (h1 : xs.all E.one = true) (hn : n ≤ 1099511627776) :
    Calls cx.P 81 #[s] w (Ret fun v w' => Row w' 123 2 v n xs ∧ Tr [] w w') := by
  rcases Row.elem h with ⟨rfl, rfl⟩ | ⟨g, cap, rfl, _, _, hc⟩
  · refine calls_body cx_ok (args := [.slice none 0 0]) Tryz.func81 rfl 8 rfl rfl [.tmp 2] rfl ?_
    refine ⟨.bool true, w, eql_nil (t := 66) (x := ⟨1, 24, false, [.slice none 0 0], .slice 123⟩) rfl rfl _ _ none 0 0 w, ?_⟩
    exact ⟨h, Tr.refl _ _⟩
  · exact (clone_store_calls w g 0 n cap xs h.1 hc h1 hn).mono fun e w' ⟨v, he, hr, t, _⟩ => ⟨v, he, hr, t⟩

theorem Pending_calls {p bl bm : Nat} {rows : List (Ln × Value)} {evv : Value} {span nev : Nat} (h : MemX w p bl bm rows evv span nev) (i : Nat) {r : Ln × Value} (hr : rows[i]? = some r) (hsm : r.1.pend.length ≤ 1099511627776) :
    Calls cx.P 27 #[.pointer (some ⟨p, 0, none⟩), .int .i64 (i : Nat)] w (Ret fun v w' => Row w' 123 2 v r.1.pend.length (pcells r.1.pend) ∧ Tr [] w w') := by
  have hi : i < rows.length := (List.getElem?_eq_some_iff.1 hr).1
  refine calls_body cx_ok (args := [.pointer (some ⟨p, 0, none⟩), .int .i64 (i : Nat)]) Tryz.func27 rfl 18 rfl rfl [.tmp 4] rfl ?_
  refine call (has_calls h i) ?_
  rintro v _ ⟨hv, rfl⟩
  rw [decide_eq_true (by omega)] at hv
  subst hv
  refine ⟨_, h.head.cell rfl, i, rfl, hi, _, h.pcell hr, ?_⟩
  refine call (clone_row_calls (h.pend r (List.mem_of_getElem? hr)) (pcells_one _) hsm) ?_
  rintro v w1 ⟨hr1, t1⟩
  exact ⟨hr1, t1⟩

end

theorem SameInts_calls (w : World) (xs ys : List Nat) (hx : xs.length ≤ 1048576) (s t : Value) (hs : Sli w s xs.length (icells xs)) (ht : Sli w t ys.length (icells ys)) :
    Calls cx.P 21 #[s, t] w (Ret fun v w' => v = .bool (decide (xs = ys)) ∧ Tr [] w w') := by
  obtain ⟨a, c, rfl, _, hs⟩ := hs
  obtain ⟨a', c', rfl, _, ht⟩ := ht
  refine calls_body cx_ok (args := [.slice a xs.length c, .slice a' ys.length c']) Tryz.func21 rfl 26 rfl rfl [.tmp 4] rfl ?_
  refine ⟨fun he => ?_, fun hne => ?_⟩
  · have he' : xs.length = ys.length := by omega
    refine loop_rule cx_ok (fun k W => k ≤ xs.length ∧ Tr [] w W ∧ ∀ i, i < k → xs[i]? = ys[i]?) (fun k : Nat => [(0, .slice a xs.length c), (1, .slice a' ys.length c'), (5, .int .i64 k)]) (fun k => xs.length - k) 0 ⟨rfl, rfl, rfl, trivial⟩ ⟨by omega, Tr.refl _ _, fun i hi => by omega⟩ ?_
    rintro k W ⟨hk, tW, hsame⟩
    refine ⟨fun hlt => ?_, fun hge => ?_⟩
    · have hkx : k < xs.length := by omega
      obtain ⟨g, o, rfl, hc⟩ := hs.resolve_left (fun hh => by have := hh.2; omega)
      obtain ⟨g', o', rfl, hc'⟩ := ht.resolve_left (fun hh => by have := hh.2; omega)
      have h1 : w.cell? ⟨g, o + k * 1, none⟩ = some (.int .i64 (xs[k] : Nat)) := by rw [Nat.mul_one]; exact hc k _ (icells_get (List.getElem?_eq_getElem hkx))
      have hky : k < ys.length := by omega
      have h2 : w.cell? ⟨g', o' + k * 1, none⟩ = some (.int .i64 (ys[k] : Nat)) := by rw [Nat.mul_one]; exact hc' k _ (icells_get (List.getElem?_eq_getElem hky))
      refine draw_rule cx_ok [] (Plan.takes [0, 1, 2, 3, 4, 5, 6, 7, 8] .done) (by kernel_rfl) ?_
      intro W1 d
      refine ⟨k, rfl, hkx, _, fun w' t => (tW.ext t).cell h1 (by simp), k, rfl, hky, _, fun w' t => (tW.ext t).cell h2 (by simp), fun heq => ?_, fun hneq => ?_⟩
      · have heq' : xs[k] = ys[k] := by omega
        refine ⟨((k + 1 : Nat) : Int), by rw [w64 (by omega)]; omega, ?_⟩
        refine ⟨rfl, k + 1, ⟨rfl, rfl, rfl, trivial⟩, ⟨by omega, tW.ext d.tr, fun i hi => ?_⟩, by omega⟩
        by_cases hik : i = k
        · subst hik; rw [List.getElem?_eq_getElem hkx, List.getElem?_eq_getElem hky, heq']
        · exact hsame i (by omega)
      · have hne' : xs ≠ ys := fun e => hneq (by subst e; rfl)
        exact ⟨by simp [hne'], tW.ext d.tr⟩
    · have hkx : k = xs.length := by omega
      have : xs = ys := List.ext_getElem? fun i => by
        by_cases hi : i < k
        · exact hsame i hi
        · rw [List.getElem?_eq_none (by omega), List.getElem?_eq_none (by omega)]
      exact ⟨by simp [this], tW⟩
  · have : xs ≠ ys := fun e => hne (by rw [e])
    exact ⟨by simp [this], Tr.refl _ _⟩

end Go.Proofs.YthepaakejpbppaaGreatDoor

/- The specification of the memory: how it lies in the heap; what only reads. -/
namespace Go.Proofs.YthepaakejpbppaaGreatDoor
open Go.E

/-- Blocks of a footprint, each of which may be none. -/
def ro (p : Nat) (rows : List (Ln × Value)) (lv evv : Value) : List (Option Nat) := some p :: lv.ownBlock :: evv.ownBlock :: rows.map fun r => r.2.ownBlock
def rfoot (p : Nat) (rows : List (Ln × Value)) (lv evv : Value) : List Nat := (ro p rows lv evv).flatMap Option.toList

theorem fn_mem {l : List (Option Nat)} {b : Nat} : b ∈ l.flatMap Option.toList ↔ some b ∈ l := by
  rw [List.mem_flatMap]
  constructor
  · rintro ⟨o, ho, hb⟩
    rw [Option.mem_toList] at hb
    cases hb
    exact ho
  · intro h
    exact ⟨some b, h, by simp⟩

theorem fn_ne {l : List (Option Nat)} (h : (l.flatMap Option.toList).Nodup) {i j b : Nat} (hi : l[i]? = some (some b)) (hj : l[j]? = some (some b)) : i = j := fm_disj (b := b) h hi hj (by simp) (by simp)

theorem fn_set {l : List (Option Nat)} {n : Nat} (h : (l.flatMap Option.toList).Nodup) (hlt : ∀ b ∈ l.flatMap Option.toList, b < n) {i : Nat} {o o' : Option Nat} (hi : l[i]? = some o) (ho : ∀ b, o' = some b → o = some b ∨ n ≤ b) :
    ((l.set i o').flatMap Option.toList).Nodup ∧ ∀ b ∈ (l.set i o').flatMap Option.toList, b ∈ l.flatMap Option.toList ∨ n ≤ b := by
  have hil := (List.getElem?_eq_some_iff.1 hi).1
  have hii := (List.getElem?_eq_some_iff.1 hi).2
  have e1 : l.flatMap Option.toList = (l.take i).flatMap Option.toList ++ (o.toList ++ (l.drop (i + 1)).flatMap Option.toList) := by
    conv => lhs; rw [← List.take_append_drop i l, List.drop_eq_getElem_cons hil, hii]
    simp
  have e2 : (l.set i o').flatMap Option.toList = (l.take i).flatMap Option.toList ++ (o'.toList ++ (l.drop (i + 1)).flatMap Option.toList) := by
    rw [List.set_eq_take_append_cons_drop, if_pos hil]
    simp
  rw [e1] at h hlt
  rw [e1, e2]
  refine ⟨nodup_swap h hlt fun b hb => (ho b hb).imp_left fun h => by simp [h], fun b hb => ?_⟩
  rcases List.mem_append.1 hb with hb | hb
  · exact .inl (List.mem_append_left _ hb)
  · rcases List.mem_append.1 hb with hb | hb
    · rcases ho b (by simpa using hb) with h | h
      · exact .inl (List.mem_append_right _ (List.mem_append_left _ (by simp [h])))
      · exact .inr h
    · exact .inl (List.mem_append_right _ (List.mem_append_right _ hb))

/-- A specification's memory lies at block p. -/
structure RX (w : World) (p : Nat) (rows : List (Ln × Value)) (lv evv : Value) (span nev : Nat) : Prop where
  head : Blk w p [lv, .int .i64 (span : Nat), evv] 138
  lines : Row w 142 11 lv rows.length (rows.flatMap lcells)
  pend : ∀ r ∈ rows, Row w 123 2 r.2 r.1.pend.length (pcells r.1.pend)
  evs : ∃ xs, Row w 127 12 evv nev xs
  ok : ∀ r ∈ rows, r.1.Ok
  nodup : (rfoot p rows lv evv).Nodup
  ge : ∀ b ∈ rfoot p rows lv evv, 4 ≤ b
  small : rows.length ≤ 4096

namespace RX
variable {w : World} {p : Nat} {rows : List (Ln × Value)} {lv evv : Value} {span nev : Nat}

theorem in_p : p ∈ rfoot p rows lv evv := fn_mem.2 (by simp [ro])
theorem in_l {b : Nat} (h : lv.ownBlock = some b) : b ∈ rfoot p rows lv evv := fn_mem.2 (by simp [ro, h])
theorem in_e {b : Nat} (h : evv.ownBlock = some b) : b ∈ rfoot p rows lv evv := fn_mem.2 (by simp [ro, h])
theorem in_row {r : Ln × Value} (hr : r ∈ rows) {b : Nat} (h : r.2.ownBlock = some b) : b ∈ rfoot p rows lv evv := by
  refine fn_mem.2 ?_
  simp only [ro, List.mem_cons, List.mem_map]
  exact .inr (.inr (.inr ⟨r, hr, h⟩))

theorem tr (h : RX w p rows lv evv span nev) {S : List Nat} {w' : World} (t : Tr S w w') (hS : ∀ b ∈ S, b ∉ rfoot p rows lv evv) : RX w' p rows lv evv span nev := by
  have hin : ∀ b ∈ rfoot p rows lv evv, b ∉ S := fun b hb hs => hS b hs hb
  obtain ⟨xs, hxs⟩ := h.evs
  exact ⟨h.head.tr t (hin _ in_p), Row.tr h.lines t fun b hb => hin _ (in_l hb), fun r hr => Row.tr (h.pend r hr) t fun b hb => hin _ (in_row hr hb), ⟨xs, Row.tr hxs t fun b hb => hin _ (in_e hb)⟩, h.ok, h.nodup, h.ge, h.small⟩

theorem ext (h : RX w p rows lv evv span nev) {w' : World} (t : Tr [] w w') : RX w' p rows lv evv span nev := h.tr t (by simp)

theorem foot_lt (h : RX w p rows lv evv span nev) : ∀ b ∈ rfoot p rows lv evv, b < w.heap.size := by
  intro b hb
  have hb := fn_mem.1 hb
  simp only [ro, List.mem_cons, List.mem_map] at hb
  rcases hb with hb | hb | hb | ⟨r, hr, hb⟩
  · cases hb; exact h.head.lt
  · exact Row.lt h.lines hb.symm
  · obtain ⟨xs, hxs⟩ := h.evs
    exact Row.lt hxs hb.symm
  · exact Row.lt (h.pend r hr) hb

theorem lens (h : RX w p rows lv evv span nev) : ∀ r ∈ rows, (lcells r).length = 11 := fun r hr => lcells_len (h.ok r hr)

/-- The list of lines. -/
theorem list (h : RX w p rows lv evv span nev) {i : Nat} (hi : i < rows.length) : ∃ g cap, lv = .slice (some ⟨g, 0, none⟩) rows.length cap ∧ Cells w g 0 (rows.flatMap lcells) := by
  rcases Row.elem h.lines with ⟨_, h0⟩ | ⟨g, cap, hv, _, _, hc⟩
  · omega
  · exact ⟨g, cap, hv, hc⟩

theorem slice (h : RX w p rows lv evv span nev) : ∃ a c, lv = .slice a rows.length c := Row.slice h.lines
end RX

theorem rcell {w : World} {g : Nat} {rows : List (Ln × Value)} (hL : ∀ r ∈ rows, (lcells r).length = 11) (hc : Cells w g 0 (rows.flatMap lcells)) {i : Nat} {r : Ln × Value} (hr : rows[i]? = some r) : Cells w g (0 + i * 11) (lcells r) := fun j v hv => by
  have := hc _ _ (fm_get hL hr hv)
  rw [Nat.add_assoc]; exact this
theorem rwords {w : World} {g : Nat} {r : Ln × Value} {o : Nat} (hc : Cells w g o (lcells r)) : Cells w g o (wcells r.1.ws) := fun j v hv => hc j v (by
  unfold lcells
  rw [List.getElem?_append_left (List.getElem?_eq_some_iff.1 hv).1]
  exact hv)

section
variable {w : World} {p : Nat} {rows : List (Ln × Value)} {lv evv : Value} {span nev : Nat}

theorem has04_calls (h : RX w p rows lv evv span nev) (n : Int) :
    Calls cx.P 128 #[.pointer (some ⟨p, 0, none⟩), .int .i64 n] w (Ret fun v w' => v = .bool (decide (0 ≤ n ∧ n < rows.length)) ∧ w = w') := by
  obtain ⟨a, c, rfl⟩ := h.slice
  refine calls_body cx_ok (args := [.pointer (some ⟨p, 0, none⟩), .int .i64 n]) Tryz.func128 rfl 16 rfl rfl [.tmp 4] rfl ?_
  refine ⟨fun h0 => ?_, fun h0 => ?_⟩
  · refine ⟨_, h.head.cell rfl, fun h1 => ?_, fun h1 => ?_⟩
    · exact ⟨by simp [h0, h1], rfl⟩
    · exact ⟨by simp [h1], rfl⟩
  · exact ⟨by simp [h0], rfl⟩

theorem State04_calls (h : RX w p rows lv evv span nev) (i : Nat) {r : Ln × Value} (hr : rows[i]? = some r) :
    Calls cx.P 87 #[.pointer (some ⟨p, 0, none⟩), .int .i64 i] w (Ret fun v w' => v = .int .i64 ((chk r.1.ws r.1.code).state : Nat) ∧ Tr [] w w') := by
  have hi : i < rows.length := (List.getElem?_eq_some_iff.1 hr).1
  have hok := h.ok r (List.mem_of_getElem? hr)
  obtain ⟨g, cap, rfl, hc⟩ := h.list hi
  have hcr := rcell h.lens hc hr
  refine calls_body cx_ok (args := [.pointer (some ⟨p, 0, none⟩), .int .i64 i]) Tryz.func87 rfl 34 rfl rfl [.tmp 4] rfl ?_
  refine call (has04_calls h i) ?_
  rintro v _ ⟨hv, rfl⟩
  rw [decide_eq_true (by omega)] at hv
  subst hv
  refine draw_rule cx_ok [] (Plan.takes [0, 1, 2, 3, 4, 5, 6, 7, 8, 9, 10, 11, 12, 13, 14, 15] (.one true 16 (Plan.takes [17, 18, 19, 20, 21, 22, 23] .done))) (by kernel_rfl) ?_
  intro w1 d
  refine ⟨_, fun w' t => t.cell (h.head.cell rfl) (by simp), i, rfl, hi, ?_⟩
  refine ⟨_, fun w' t => (rwords hcr).tr t (by simp), wcells_len hok.ws, _, fun w' t => t.cell (h.head.cell rfl) (by simp), i, rfl, hi, _, fun w' t => t.cell (hcr 8 _ (lcells_code hok)) (by simp), ?_⟩
  refine ⟨?_, trivial⟩
  refine call (Check03_calls r.1.ws hok.ws r.1.code hok.code w1) ?_
  rintro _ w2 ⟨rfl, t2⟩
  exact ⟨d.tr.ext t2, rfl, d.tr.ext t2⟩

set_option maxHeartbeats 1000000 in
theorem Shows04_calls (h : RX w p rows lv evv span nev) (i : Nat) {r : Ln × Value} (hr : rows[i]? = some r) :
    Calls cx.P 91 #[.pointer (some ⟨p, 0, none⟩), .int .i64 i] w (Ret fun v w' => v = .agg (optCells (shr r)).toArray ∧ Tr [] w w') := by
  have hi : i < rows.length := (List.getElem?_eq_some_iff.1 hr).1
  have hok := h.ok r (List.mem_of_getElem? hr)
  have hrow := h.pend r (List.mem_of_getElem? hr)
  obtain ⟨g, cap, rfl, hc⟩ := h.list hi
  have hcr := rcell h.lens hc hr
  have hw8 : Line8 (fixW (fix r.1.ws r.1.code)) := by
    cases hf : fix r.1.ws r.1.code with
    | none => exact zeros8_ok
    | some q => exact (fix_line (vs := q.1) (c := q.2) hok.ws hok.code hf).1
  have hlw := wcells_len hw8
  refine calls_body cx_ok (args := [.pointer (some ⟨p, 0, none⟩), .int .i64 i]) Tryz.func91 rfl 50 rfl rfl [.cell 4 69] rfl ?_
  intro b4 w1 n1
  have e1 := n1.num; have z1 := n1.size
  have B4 : Blk w1 b4 (wcells zeros8) 69 := n1.blk
  refine ⟨_, (h.head.ext n1.tr).cell rfl, i, rfl, hi, lcells r, hcr.ext n1.tr, lcells_len hok, ?_⟩
  intro b5 w2 n2
  have e2 := n2.num; have z2 := n2.size
  obtain ⟨av, cv, hrv⟩ := Row.slice hrow
  have hone : (lcells r).all E.one = true := by simp [lcells, wcells, E.one, hrv]
  refine ⟨_, _, n2.blk, lcells_len hok, by show 0 + 11 ≤ 11; decide, hone, fun w3 u3 => ?_⟩
  have z3 := u3.size
  have B5 : Blk w3 b5 (lcells r) 142 := Upd.whole u3 rfl (lcells_len hok)
  have t13 : Tr [] w1 w3 := u3.ext n2.tr (by omega)
  refine ⟨_, rwords B5.all, wcells_len hok.ws, _, B5.cell (lcells_code hok), ?_⟩
  refine call (Fix03_calls r.1.ws hok.ws r.1.code hok.code w3) ?_
  rintro v w4 ⟨hv, t4⟩
  rw [fixVal_eq] at hv
  subst hv
  have z4 := t4.size
  intro b6 w5 n5
  have e5 := n5.num; have z5 := n5.size
  refine ⟨_, _, n5.blk, hlw, by show 0 + 8 ≤ 8; decide, wcells_one _, fun w6 u6 => ?_⟩
  have z6 := u6.size
  have B6 : Blk w6 b6 (wcells (fixW (fix r.1.ws r.1.code))) 69 := Upd.whole u6 rfl hlw
  have t36 : Tr [] w3 w6 := u6.ext (t4.ext n5.tr) (by omega)
  have t16 := t13.ext t36
  have C4 := B4.ext t16
  have C5 := B5.ext t36
  have t06 := n1.tr.ext t16
  cases hf : fix r.1.ws r.1.code with
  | none =>
    have hsh : shr r = none := by unfold shr Ln.shows; rw [hf]; rfl
    rw [hsh]
    refine ⟨fun h => absurd h (by show ¬ ((9 : Int) = 0); decide), fun _ => ?_⟩
    exact ⟨_, rfl, _, _, C4, rfl, by show 0 + 8 ≤ 8; decide, rfl, fun w7 u7 => ⟨_, u7.blk.all, rfl, rfl, u7.ext t06 (by omega)⟩⟩
  | some q =>
    rw [hf] at B6 hw8
    obtain ⟨k, hk⟩ : ∃ k, k = r.1.pend.length := ⟨_, rfl⟩
    have hsh : shr r = some (lay q.1 (r.1.pend.take k)) := by unfold shr Ln.shows; rw [hf, hk]; rfl
    rw [hsh]
    refine ⟨fun _ => ?_, fun h => absurd rfl h⟩
    have hpc : ∀ W, Tr [b6] w6 W → W.cell? ⟨b5, 0 + 9, none⟩ = some r.2 := fun W t => (C5.tr t (by simp; omega)).cell (lcells_pend hok)
    rw [hrv] at hpc
    refine loop_rule cx_ok (fun j W => j ≤ k ∧ Tr [b6] w6 W ∧ Blk W b6 (wcells (lay q.1 (r.1.pend.take j))) 69)
      (fun j : Nat => [(4, .pointer (some ⟨b4, 0, none⟩)), (5, .pointer (some ⟨b5, 0, none⟩)), (6, .pointer (some ⟨b6, 0, none⟩)), (9, .int .i64 j)]) (fun j => k - j) 0 ⟨rfl, rfl, rfl, rfl, trivial⟩ ⟨by omega, Tr.refl _ _, by simpa [lay, fixW] using B6⟩ ?_
    rintro j W ⟨hj, tW, BW⟩
    have zW := tW.size
    have hl8 : Line8 (lay q.1 (r.1.pend.take j)) := lay_ok hw8 fun p hp => hok.pend p (List.mem_of_mem_take hp)
    have t0W : Tr [] w W := t06.trans tW (fun _ h => h) (fun b hb hlt => by simp at hb; omega)
    refine ⟨_, hpc W tW, fun hlt => ?_, fun hge => ?_⟩
    · have hjk : j < k := by omega
      have hjp : j < r.1.pend.length := by omega
      have hq : r.1.pend[j]? = some r.1.pend[j] := List.getElem?_eq_getElem hjp
      obtain ⟨hc0, hc1⟩ := pcells_get hq
      have hqok := hok.pend _ (List.mem_of_getElem? hq)
      obtain ⟨g2, cap2, hg2, _, _, hcs⟩ := (Row.elem hrow).resolve_left (fun hh => by have := hh.2; omega)
      rw [hrv] at hg2
      cases hg2
      have k0 : W.cell? ⟨g2, 0 + j * 2 + 0, none⟩ = some (.int .i64 (r.1.pend[j].1 : Nat)) := by
        have := t0W.cell (hcs _ _ hc0) (by simp)
        rw [show 0 + j * 2 + 0 = 0 + j * 2 by omega]; exact this
      have k1 : W.cell? ⟨g2, 0 + j * 2 + 1, none⟩ = some (.int .i64 (r.1.pend[j].2 : Nat)) := by
        have := t0W.cell (hcs _ _ hc1) (by simp)
        rw [show 0 + j * 2 + 1 = 0 + (j * 2 + 1) by omega]; exact this
      refine draw_rule cx_ok [] (Plan.takes [0, 1, 2, 3, 4, 5, 6, 7, 8, 9, 10, 11, 12] (.one false 13 .done)) (by kernel_rfl) ?_
      intro W1 d
      have td : Tr [b6] w6 W1 := tW.trans d.tr (fun _ h => h) (fun _ h _ => by cases h)
      refine ⟨_, fun w' t => t.cell (hpc W tW) (by simp), j, rfl, hjp, _, fun w' t => t.cell k0 (by simp), _, fun w' t => t.cell (hpc W tW) (by simp), j, rfl, hjp, _, fun w' t => t.cell k1 (by simp), r.1.pend[j].1, rfl, hqok.1, ?_⟩
      refine ⟨⟨_, _, BW.ext d.tr, by rw [wcells_len hl8]; show 0 + r.1.pend[j].1 * 1 < 8; omega, rfl, fun W5 u5 => ?_⟩, trivial⟩
      have hm := Row.elem hrow
      have hsm : k ≤ 9223372036854775807 := by
        rcases hm with ⟨_, h0⟩ | ⟨_, cap3, _, h1, h2, _⟩
        · omega
        · simp only [maxLen] at h2; omega
      refine ⟨((j + 1 : Nat) : Int), by rw [w64 (by omega)]; omega, ?_⟩
      refine ⟨rfl, j + 1, ⟨rfl, rfl, rfl, rfl, trivial⟩, ⟨hjk, td.same u5.tr, ?_⟩, by omega⟩
      have := u5.blk
      rw [show 0 + r.1.pend[j].1 * 1 = r.1.pend[j].1 by omega, ← wcells_set, ← lay_snoc] at this
      rw [List.take_succ_eq_append_getElem hjp]
      exact this
    · have hjk : j = k := by omega
      rw [hjk] at BW hl8
      refine ⟨_, BW.all, wcells_len hl8, _, _, C4.tr tW (by simp; omega), wcells_len hl8, by show 0 + 8 ≤ 8; decide, wcells_one _, fun w7 u7 => ?_⟩
      exact ⟨_, (Upd.whole u7 rfl (wcells_len hl8)).all, wcells_len hl8, rfl, u7.ext t0W (by omega)⟩

theorem chk_fix_none {ws : List Nat} {code : Nat} : fix ws code = none ↔ (chk ws code).state = 2 := by
  have hle := chk_le ws code
  unfold fix
  rcases h : (chk ws code).state with _ | _ | _ | n
  · simp
  · simp
  · simp
  · omega

theorem Load04_calls (h : RX w p rows lv evv span nev) (i j : Nat) (hj : j < 8) {r : Ln × Value} (hr : rows[i]? = some r) :
    Calls cx.P 103 #[.pointer (some ⟨p, 0, none⟩), .int .i64 (8 * i + j : Nat)] w (Ret fun v w' => v = loadV (shr r) j ∧ Tr [] w w') := by
  have hi : i < rows.length := (List.getElem?_eq_some_iff.1 hr).1
  have hsm := h.small
  have hok := h.ok r (List.mem_of_getElem? hr)
  have hdiv : IntKind.i64.wrap (((8 * i + j : Nat) : Int).tdiv 8) = (i : Int) := by rw [IntWalk.i64_quo _ _ (by omega)]; omega
  refine calls_body cx_ok (args := [.pointer (some ⟨p, 0, none⟩), .int .i64 (8 * i + j : Nat)]) Tryz.func103 rfl 29 rfl rfl [.tmp 4, .tmp 5] rfl ?_
  refine ⟨fun h0 => absurd h0 (by omega), fun _ => ?_⟩
  refine ⟨_, by decide, hdiv, ?_⟩
  refine call (has04_calls h i) ?_
  rintro v _ ⟨hv', rfl⟩
  rw [decide_eq_true (by omega)] at hv'
  subst hv'
  refine ⟨_, by decide, hdiv, ?_⟩
  refine call (State04_calls h i hr) ?_
  rintro _ w1 ⟨rfl, t1⟩
  refine ⟨fun h2 => ?_, fun h2 => ?_⟩
  · have : fix r.1.ws r.1.code = none := chk_fix_none.2 (by omega)
    have hsh : shr r = none := by unfold shr Ln.shows; rw [this]; rfl
    rw [hsh]
    exact ⟨rfl, t1⟩
  · obtain ⟨q, hq⟩ : ∃ q, fix r.1.ws r.1.code = some q := by
      cases hf : fix r.1.ws r.1.code with
      | none => exact absurd (chk_fix_none.1 hf) (by omega)
      | some q => exact ⟨q, rfl⟩
    obtain ⟨ws, hws⟩ : ∃ ws, shr r = some ws := by unfold shr Ln.shows; rw [hq]; exact ⟨_, rfl⟩
    refine ⟨_, by decide, hdiv, ?_⟩
    refine call (Shows04_calls (h.ext t1) i hr) ?_
    rintro _ w2 ⟨rfl, t2⟩
    intro b6 w3 n3
    have e3 := n3.num; have z1 := t1.size; have z2 := t2.size
    have h8 := hok.shows hws
    rw [hws]
    refine ⟨_, _, n3.blk, wcells_len h8, by show 0 + 8 ≤ 8; decide, wcells_one _, fun w4 u4 => ?_⟩
    have B6 : Blk w4 b6 (wcells ws) 69 := Upd.whole u4 rfl (wcells_len h8)
    obtain ⟨x, hx, hx40, hgd, hxc⟩ := h8.at hj
    have hcell : w4.cell? ⟨b6, 0 + j * 1, none⟩ = some (.int .i64 (x : Nat)) := by
      rw [show 0 + j * 1 = j by omega]
      exact B6.cell hxc
    refine ⟨(j : Int), by decide, by rw [IntWalk.rem_in _ _ (by omega)]; omega, j, rfl, hj, _, hcell, ?_⟩
    refine ⟨?_, u4.ext ((t1.ext t2).ext n3.tr) (by omega)⟩
    show _ = Value.tuple #[.int .i64 (ws.getD j 0 : Nat), .int .i64 0]
    rw [hgd]
    rfl

end

end Go.Proofs.YthepaakejpbppaaGreatDoor

/- Words; functions over slices. -/
namespace Go.Proofs.YthepaakejpbppaaGreatDoor
open Go.E

def wordI (x : Int) : Bool := decide (0 ≤ x ∧ x ≤ 1099511627775)

theorem callG_intro {c : Cx} {f : Nat} {args : List Value} {w : World} {K : Value → World → Prop} (h : (Nat.ble c.lo f && Nat.blt f c.hi) = true) (h2 : CallP c.P f args.toArray w K) : callG c f args w K := by
  unfold callG; rw [h]; exact h2

theorem toNat_word {x : Int} (h : wordI x = true) : ((x.toNat : Nat) : Int) = x ∧ x.toNat < 2 ^ 40 := by
  unfold wordI at h
  have := of_decide_eq_true h
  omega

section
variable {w : World}

theorem i64s_get {xs : List Int} {i : Nat} {x : Int} (h : xs[i]? = some x) : (i64s xs)[i]? = some (.int .i64 x) := by simp [i64s, h]

/-- slices.IndexFunc with a function without captured variables. -/
theorem IndexFunc_calls (xs : List Int) (s : Value) (hs : SliZ w s xs.length (i64s xs)) (hn : xs.length ≤ 4611686018427387904) (f : Nat) (hf : (Nat.ble cx.lo f && Nat.blt f cx.hi) = true) (g : Int → Bool) (hg : ∀ x W, x ∈ xs → Calls cx.P f #[.int .i64 x] W (Ret fun v W' => v = .bool (g x) ∧ W = W')) :
    Calls cx.P 127 #[s, .func (.func f) #[] #[]] w (Ret fun v w' => v = .int .i64 (match xs.findIdx? g with | some i => (i : Int) | none => -1) ∧ w = w') := by
  obtain ⟨a, c, rfl, _, hs⟩ := hs
  refine calls_body cx_ok (args := [.slice a xs.length c, .func (.func f) #[] #[]]) Tryz.func127 rfl 19 rfl rfl [.tmp 4] rfl ?_
  refine loop_rule cx_ok (fun k W => (k ≤ xs.length ∧ ∀ i x, i < k → xs[i]? = some x → g x = false) ∧ w = W) (fun k : Nat => [(0, .slice a xs.length c), (1, .func (.func f) #[] #[]), (7, .int .i64 xs.length), (8, .int .i64 k)]) (fun k => xs.length - k) 0 ⟨rfl, rfl, rfl, rfl, trivial⟩ ⟨⟨by omega, fun i x hi => by omega⟩, rfl⟩ ?_
  rintro k _ ⟨⟨hk, hno⟩, rfl⟩
  refine ⟨fun hlt => ?_, fun hge => ?_⟩
  · have hk' : k < xs.length := by omega
    obtain ⟨b, o, rfl, hc⟩ := hs.resolve_left (fun hh => by omega)
    obtain ⟨x, hx⟩ : ∃ x, xs[k]? = some x := ⟨_, List.getElem?_eq_getElem hk'⟩
    refine ⟨k, rfl, hk', _, by rw [Nat.mul_one]; exact hc k _ (i64s_get hx), ?_⟩
    refine callG_intro hf ?_
    refine call (hg x w (List.mem_of_getElem? hx)) ?_
    rintro _ _ ⟨rfl, rfl⟩
    cases hgx : g x with
    | true =>
      refine ⟨?_, rfl⟩
      have : xs.findIdx? g = some k := by
        rw [List.findIdx?_eq_some_iff_getElem]
        refine ⟨hk', by rw [(List.getElem?_eq_some_iff.1 hx).2]; exact hgx, fun j hj => ?_⟩
        rw [hno j xs[j] hj (List.getElem?_eq_getElem (by omega))]
        decide
      rw [this]
      rfl
    | false =>
      refine ⟨((k + 1 : Nat) : Int), by rw [w64 (by omega)]; omega, ?_⟩
      refine ⟨rfl, k + 1, ⟨rfl, rfl, rfl, rfl, trivial⟩, ⟨⟨by omega, fun i y hi hy => ?_⟩, rfl⟩, by omega⟩
      by_cases hik : i = k
      · subst hik
        rw [hx] at hy
        obtain rfl := Option.some.inj hy
        exact hgx
      · exact hno i y (by omega) hy
  · refine ⟨?_, rfl⟩
    have : xs.findIdx? g = none := by
      rw [List.findIdx?_eq_none_iff]
      intro x hx
      obtain ⟨i, hi⟩ := List.mem_iff_getElem?.1 hx
      have := (List.getElem?_eq_some_iff.1 hi).1
      exact hno i x (by omega) hi
    rw [this]
    rfl

theorem ContainsFunc_calls (xs : List Int) (s : Value) (hs : SliZ w s xs.length (i64s xs)) (hn : xs.length ≤ 4611686018427387904) (f : Nat) (hf : (Nat.ble cx.lo f && Nat.blt f cx.hi) = true) (g : Int → Bool) (hg : ∀ x W, x ∈ xs → Calls cx.P f #[.int .i64 x] W (Ret fun v W' => v = .bool (g x) ∧ W = W')) :
    Calls cx.P 84 #[s, .func (.func f) #[] #[]] w (Ret fun v w' => v = .bool (xs.any g) ∧ w = w') := by
  refine calls_body cx_ok (args := [s, .func (.func f) #[] #[]]) Tryz.func84 rfl 9 rfl rfl [.tmp 4] rfl ?_
  refine call (IndexFunc_calls xs s hs hn f hf g hg) ?_
  rintro _ _ ⟨rfl, rfl⟩
  cases hi : xs.findIdx? g with
  | some i =>
    refine ⟨fun _ => ⟨?_, rfl⟩, fun h => absurd (Int.natCast_nonneg i) h⟩
    obtain ⟨h1, h2, _⟩ := List.findIdx?_eq_some_iff_getElem.1 hi
    have : xs.any g = true := List.any_eq_true.2 ⟨_, List.getElem_mem h1, h2⟩
    rw [this]; rfl
  | none =>
    refine ⟨fun h => absurd h (by decide), fun _ => ⟨?_, rfl⟩⟩
    rw [List.findIdx?_eq_none_iff] at hi
    have : xs.any g = false := List.any_eq_false.2 fun x hx => by rw [hi x hx]; decide
    rw [this]; rfl

theorem words1_calls (x : Int) (W : World) : Calls cx.P 125 #[.int .i64 x] W (Ret fun v W' => v = .bool (!wordI x) ∧ W = W') := by
  refine calls_body cx_ok (args := [.int .i64 x]) Tryz.func125 rfl 6 rfl rfl [.tmp 2] rfl ?_
  refine call (word_calls x W) ?_
  rintro _ _ ⟨rfl, rfl⟩
  exact ⟨rfl, rfl⟩

theorem words_calls (xs : List Int) (h8 : xs.length = 8) : Calls cx.P 82 #[.agg (i64s xs).toArray] w (Ret fun v w' => v = .bool (xs.all wordI) ∧ Tr [] w w') := by
  refine calls_body cx_ok (args := [.agg (i64s xs).toArray]) Tryz.func82 rfl 6 rfl rfl [.tmp 2] rfl ?_
  intro b w1 n1
  have B : Blk w1 b (i64s xs) 69 := n1.blk
  refine ⟨0, 8, rfl, rfl, by omega, by omega, ?_⟩
  rw [sadr_zero]
  have hs : Sli w1 (.slice (some ⟨b, 0, none⟩) xs.length xs.length) xs.length (i64s xs) := ⟨_, _, rfl, Nat.le_refl _, .inr ⟨b, 0, rfl, B.all⟩⟩
  have hcf := ContainsFunc_calls xs _ hs.z (by omega) 125 rfl (fun x => !wordI x) (fun x W _ => words1_calls x W)
  rw [h8] at hcf
  refine call hcf ?_
  rintro _ _ ⟨rfl, rfl⟩
  refine ⟨?_, n1.tr⟩
  show Value.bool (!xs.any fun x => !wordI x) = _
  rw [List.all_eq_not_any_not]

end

theorem word04_calls (x : Int) (w : World) : Calls cx.P 152 #[.int .i64 x] w (Ret fun v w' => v = .bool (wordI x) ∧ w = w') := by
  refine calls_body cx_ok (args := [.int .i64 x]) Tryz.func152 rfl 9 rfl rfl [.tmp 2] rfl ?_
  refine ⟨fun h0 => ⟨fun h1 => ?_, fun h1 => ?_⟩, fun h0 => ?_⟩
  · exact ⟨by simp [wordI, h0, h1], rfl⟩
  · exact ⟨by simp [wordI, h1], rfl⟩
  · exact ⟨by simp [wordI, h0], rfl⟩

section
variable {w : World}

theorem Words04_calls (xs : List Int) (h8 : xs.length = 8) : Calls cx.P 135 #[.agg (i64s xs).toArray] w (Ret fun v w' => v = .bool (xs.all wordI) ∧ Tr [] w w') := by
  refine calls_body cx_ok (args := [.agg (i64s xs).toArray]) Tryz.func135 rfl 13 rfl rfl [.tmp 2] rfl ?_
  intro b w1 n1
  have B : Blk w1 b (i64s xs) 69 := n1.blk
  refine loop_rule cx_ok (fun k W => (k ≤ 8 ∧ ∀ i x, i < k → xs[i]? = some x → wordI x = true) ∧ w1 = W) (fun k : Nat => [(1, .pointer (some ⟨b, 0, none⟩)), (3, .int .i64 k)]) (fun k => 8 - k) 0 ⟨rfl, rfl, trivial⟩ ⟨⟨by omega, fun i x hi => by omega⟩, rfl⟩ ?_
  rintro k _ ⟨⟨hk, hyes⟩, rfl⟩
  refine ⟨fun hlt => ?_, fun hge => ?_⟩
  · have hk8 : k < 8 := by omega
    obtain ⟨x, hx⟩ : ∃ x, xs[k]? = some x := ⟨_, List.getElem?_eq_getElem (by omega)⟩
    refine ⟨k, rfl, hk8, _, B.cell (by rw [show 0 + k * 1 = k by omega]; exact i64s_get hx), ?_⟩
    refine call (word04_calls x w1) ?_
    rintro _ _ ⟨rfl, rfl⟩
    cases hwx : wordI x with
    | false =>
      refine ⟨?_, n1.tr⟩
      have : xs.all wordI = false := by
        rw [List.all_eq_false]
        exact ⟨x, List.mem_of_getElem? hx, by rw [hwx]; decide⟩
      rw [this]; rfl
    | true =>
      refine ⟨((k + 1 : Nat) : Int), by rw [w64 (by omega)]; omega, ?_⟩
      refine ⟨rfl, k + 1, ⟨rfl, rfl, trivial⟩, ⟨⟨by omega, fun i y hi hy => ?_⟩, rfl⟩, by omega⟩
      by_cases hik : i = k
      · subst hik
        rw [hx] at hy
        obtain rfl := Option.some.inj hy
        exact hwx
      · exact hyes i y (by omega) hy
  · refine ⟨?_, n1.tr⟩
    have : xs.all wordI = true := by
      rw [List.all_eq_true]
      intro x hx
      obtain ⟨i, hi⟩ := List.mem_iff_getElem?.1 hx
      have := (List.getElem?_eq_some_iff.1 hi).1
      exact hyes i x (by omega) hi
    rw [this]; rfl

end

end Go.Proofs.YthepaakejpbppaaGreatDoor

/- The memory as a list of lines: what each call returns and leaves. -/
namespace Go.Proofs.YthepaakejpbppaaGreatDoor
open Go.E

def inI64 (z : Int) : Prop := -9223372036854775808 ≤ z ∧ z ≤ 9223372036854775807

def inB (L : List Ln) (n : Int) : Prop := 0 ≤ n ∧ n < L.length
instance (L : List Ln) (n : Int) : Decidable (inB L n) := by unfold inB; infer_instance

def lnAt (L : List Ln) (i : Nat) : Ln := L.getD i ⟨zeros8, 0, [], 0⟩
def rotten (l : Ln) : Prop := (chk l.ws l.code).state = 2
instance (l : Ln) : Decidable (rotten l) := by unfold rotten; infer_instance

/-- Store and Publish. -/
def putL (L : List Ln) (at_ val : Int) : Int × List Ln :=
  if ¬ (0 ≤ at_ ∧ at_ < 8 * L.length) then (40, L)
  else if wordI val = false then (1, L)
  else if rotten (lnAt L (at_.toNat / 8)) then (9, L)
  else (0, L.set (at_.toNat / 8) ((lnAt L (at_.toNat / 8)).put (at_.toNat % 8) val.toNat))

def flushL (L : List Ln) (n : Int) : Int × List Ln := if ¬ inB L n then (40, L) else (0, L.set n.toNat (lnAt L n.toNat).flush)
def fenceL (L : List Ln) : List Ln := L.map fun l => l.settle l.mark
def evictL (L : List Ln) (n k : Int) : Int × List Ln :=
  if ¬ inB L n then (40, L)
  else if ¬ (1 ≤ k ∧ k ≤ (lnAt L n.toNat).pend.length) then (1, L)
  else (0, L.set n.toNat ((lnAt L n.toNat).settle k.toNat))
def healL (L : List Ln) (n : Int) (xs : List Int) : Int × List Ln :=
  if ¬ inB L n then (40, L)
  else if xs.all wordI = false then (1, L)
  else (0, L.set n.toNat (quiet (xs.map Int.toNat)))
def xorW (ws xs : List Nat) : List Nat := List.zipWith (· ^^^ ·) ws xs
def Ln.rot (l : Ln) (xs : List Nat) (c : Nat) : Ln := { l with ws := xorW l.ws xs, code := l.code ^^^ c }
def rotL (L : List Ln) (n : Int) (xs : List Int) (c : Int) : Int × List Ln :=
  if ¬ inB L n then (40, L)
  else if xs.all wordI = false ∨ c < 0 ∨ 1023 < c then (1, L)
  else if (lnAt L n.toNat).pend ≠ [] then (4, L)
  else (0, L.set n.toNat ((lnAt L n.toNat).rot (xs.map Int.toNat) c.toNat))

def LOk (L : List Ln) : Prop := ∀ l ∈ L, l.Ok

theorem lnAt_get {L : List Ln} {i : Nat} (h : i < L.length) : L[i]? = some (lnAt L i) := by
  unfold lnAt
  rw [List.getD_eq_getElem?_getD, List.getElem?_eq_getElem h]; rfl
theorem lnAt_mem {L : List Ln} {i : Nat} (h : i < L.length) : lnAt L i ∈ L := List.mem_of_getElem? (lnAt_get h)

theorem xorW_ok {ws xs : List Nat} (h1 : Line8 ws) (h2 : Line8 xs) : Line8 (xorW ws xs) := by
  refine ⟨by simp [xorW, h1.len, h2.len], fun x hx => ?_⟩
  obtain ⟨i, hi⟩ := List.mem_iff_getElem?.1 hx
  unfold xorW at hi
  rw [List.getElem?_zipWith] at hi
  split at hi
  · rename_i a b ha hb
    cases hi
    exact Nat.xor_lt_two_pow (h1.word a (List.mem_of_getElem? ha)) (h2.word b (List.mem_of_getElem? hb))
  · cases hi

theorem Ln.Ok.rot {l : Ln} (h : l.Ok) {xs : List Nat} {c : Nat} (hx : Line8 xs) (hc : c < 1024) : (l.rot xs c).Ok :=
  ⟨xorW_ok h.ws hx, Nat.xor_lt_two_pow (n := 10) h.code hc, h.pend, h.mark⟩

theorem nat_words {xs : List Int} (h8 : xs.length = 8) (h : xs.all wordI = true) : Line8 (xs.map Int.toNat) ∧ i64s xs = wcells (xs.map Int.toNat) := by
  have hw : ∀ x ∈ xs, ((x.toNat : Nat) : Int) = x ∧ x.toNat < 2 ^ 40 := fun x hx => toNat_word (List.all_eq_true.1 h x hx)
  refine ⟨⟨by simp [h8], fun y hy => ?_⟩, ?_⟩
  · obtain ⟨x, hx, rfl⟩ := List.mem_map.1 hy
    exact (hw x hx).2
  · unfold i64s wcells
    rw [List.map_map]
    refine List.map_congr_left fun x hx => ?_
    simp only [Function.comp, (hw x hx).1]

theorem LOk.set {L : List Ln} (h : LOk L) {i : Nat} {l : Ln} (hl : l.Ok) : LOk (L.set i l) := fun x hx => by
  rcases List.mem_or_eq_of_mem_set hx with hx | rfl
  · exact h x hx
  · exact hl

theorem putL_len (L : List Ln) (a v : Int) : (putL L a v).2.length = L.length := by
  unfold putL
  split
  · rfl
  · split
    · rfl
    · split
      · rfl
      · simp
theorem flushL_len (L : List Ln) (n : Int) : (flushL L n).2.length = L.length := by unfold flushL; split <;> simp
theorem fenceL_len (L : List Ln) : (fenceL L).length = L.length := by simp [fenceL]

end Go.Proofs.YthepaakejpbppaaGreatDoor

/- The program's memory: contracts of its calls for every argument, I. -/
namespace Go.Proofs.YthepaakejpbppaaGreatDoor
open Go.E

/-- The memory with lines L lies at block p, in blocks of F; N bounds its events, and what is pending on a line. -/
def IMem (w : World) (p : Nat) (L : List Ln) (span N : Nat) (F : List Nat) : Prop := ∃ bl bm rows evv nev, MemW w p bl bm rows evv span nev ∧ rows.map (·.1) = L ∧ nev ≤ N ∧ (∀ l ∈ L, l.pend.length ≤ N) ∧ F = foot p bl bm rows evv

section
variable {w : World} {p : Nat} {L : List Ln} {span N : Nat} {F : List Nat}

theorem IMem.tr {S : List Nat} {w' : World} (h : IMem w p L span N F) (t : Tr S w w') (hS : ∀ b ∈ S, b ∉ F) : IMem w' p L span N F := by
  obtain ⟨bl, bm, rows, evv, nev, h1, h2, h3, h4, rfl⟩ := h
  exact ⟨bl, bm, rows, evv, nev, ⟨h1.toMemX.tr t hS, h1.busy.tr t fun hm => hS bm hm in_bm⟩, h2, h3, h4, rfl⟩
theorem IMem.ext {w' : World} (h : IMem w p L span N F) (t : Tr [] w w') : IMem w' p L span N F := h.tr t (by simp)
theorem IMem.mono {N' : Nat} (h : IMem w p L span N F) (hn : N ≤ N') : IMem w p L span N' F := by
  obtain ⟨bl, bm, rows, evv, nev, h1, h2, h3, h4, rfl⟩ := h
  exact ⟨bl, bm, rows, evv, nev, h1, h2, by omega, fun l hl => by have := h4 l hl; omega, rfl⟩
theorem IMem.lt (h : IMem w p L span N F) : ∀ b ∈ F, b < w.heap.size := by
  obtain ⟨bl, bm, rows, evv, nev, h1, _, _, _, rfl⟩ := h
  exact h1.foot_lt
theorem IMem.ge (h : IMem w p L span N F) : ∀ b ∈ F, 4 ≤ b := by
  obtain ⟨bl, bm, rows, evv, nev, h1, _, _, _, rfl⟩ := h
  exact h1.ge
theorem IMem.ok (h : IMem w p L span N F) : LOk L := by
  obtain ⟨bl, bm, rows, evv, nev, h1, rfl, _⟩ := h
  intro l hl
  obtain ⟨r, hr, rfl⟩ := List.mem_map.1 hl
  exact h1.ok r hr
theorem IMem.small (h : IMem w p L span N F) : L.length ≤ 4096 := by
  obtain ⟨bl, bm, rows, evv, nev, h1, rfl, _⟩ := h
  rw [List.length_map]; exact h1.small
theorem IMem.p_in (h : IMem w p L span N F) : p ∈ F := by
  obtain ⟨bl, bm, rows, evv, nev, h1, _, _, _, rfl⟩ := h
  exact in_p

/-- A row's line. -/
theorem row_at {rows : List (Ln × Value)} (h : rows.map (·.1) = L) {i : Nat} (hi : i < L.length) : ∃ v, rows[i]? = some (lnAt L i, v) := map_ln h (lnAt_get hi)
where
  map_ln {rows : List (Ln × Value)} {L : List Ln} (h : rows.map (·.1) = L) {i : Nat} {l : Ln} (hl : L[i]? = some l) : ∃ v, rows[i]? = some (l, v) := by
    rw [← h, List.getElem?_map] at hl
    obtain ⟨r, hr, rfl⟩ := Option.map_eq_some_iff.1 hl
    exact ⟨r.2, hr⟩

theorem IMem.same {w' : World} (h : IMem w p L span N F) (t : Tr [] w w') : ∃ F', IMem w' p L span (N + 1) F' ∧ Step w w' F F' :=
  ⟨F, (h.ext t).mono (by omega), t.of_ext, fun b hb => .inl hb⟩

theorem IMem.gl {w' : World} {F' : List Nat} (h : IMem w p L span N F) (hg : Gl w) (hs : Step w w' F F') : Gl w' := hg.tr hs.tr fun b hb => h.ge b hb

/-- has, on the lines. -/
theorem IMem.has (h : IMem w p L span N F) (n : Int) : Calls cx.P 79 #[.pointer (some ⟨p, 0, none⟩), .int .i64 n] w (Ret fun v w' => v = .bool (decide (inB L n)) ∧ w = w') := by
  obtain ⟨bl, bm, rows, evv, nev, h1, h2, h3, h4, rfl⟩ := h
  refine (has_calls h1.toMemX n).mono fun e w' ⟨v, he, hv, hw⟩ => ⟨v, he, ?_, hw⟩
  rw [hv]
  congr 1
  exact decide_eq_decide.2 (by unfold inB; rw [← h2, List.length_map])

theorem IMem.state (h : IMem w p L span N F) (hg : Gl w) (n : Int) : Calls cx.P 26 #[.pointer (some ⟨p, 0, none⟩), .int .i64 n] w (Ret fun v w' => v = .int .i64 (if inB L n then ((chk (lnAt L n.toNat).ws (lnAt L n.toNat).code).state : Int) else -1) ∧ Tr [] w w') := by
  by_cases hi : inB L n
  · rw [if_pos hi]
    obtain ⟨h0, h1⟩ := hi
    obtain ⟨bl, bm, rows, evv, nev, hm, h2, h3, h4, rfl⟩ := h
    obtain ⟨v, hr⟩ := row_at h2 (i := n.toNat) (by omega)
    have := State_calls hm.toMemX hg n.toNat hr
    rw [show ((n.toNat : Nat) : Int) = n by omega] at this
    exact this
  · rw [if_neg hi]
    refine calls_body cx_ok (args := [.pointer (some ⟨p, 0, none⟩), .int .i64 n]) Tryz.func26 rfl 36 rfl rfl [.tmp 4] rfl ?_
    refine call (h.has n) ?_
    rintro _ _ ⟨hv, rfl⟩
    rw [decide_eq_false hi] at hv
    subst hv
    exact ⟨rfl, Tr.refl _ _⟩

theorem quo8 {a : Int} (h0 : 0 ≤ a) (h1 : a ≤ 9223372036854775807) : IntKind.i64.wrap (a.tdiv 8) = ((a.toNat / 8 : Nat) : Int) := by
  obtain ⟨n, rfl⟩ := Int.eq_ofNat_of_zero_le h0
  rw [IntWalk.i64_quo _ _ (by omega)]
  simp

theorem put_gen (h : IMem w p L span N F) (hg : Gl w) (hN : N < 549755813888) (kind a v : Int) (ha : inI64 a) :
    Calls cx.P 95 #[.pointer (some ⟨p, 0, none⟩), .int .i64 kind, .int .i64 a, .int .i64 v, .func (.func 83) #[.pointer (some ⟨p, 0, none⟩)] #[]] w
      (Ret fun x w' => x = .int .i64 (putL L a v).1 ∧ ∃ F', IMem w' p (putL L a v).2 span (N + 1) F' ∧ Step w w' F F') := by
  have hsml := h.small
  by_cases hin : 0 ≤ a ∧ a < 8 * L.length
  · obtain ⟨i, hi⟩ : ∃ i, i = a.toNat / 8 := ⟨_, rfl⟩
    obtain ⟨j, hj⟩ : ∃ j, j = a.toNat % 8 := ⟨_, rfl⟩
    have hae : a = ((8 * i + j : Nat) : Int) := by omega
    have hiL : i < L.length := by omega
    by_cases hw : wordI v = true
    · obtain ⟨hv1, hv2⟩ := toNat_word hw
      by_cases hrot : rotten (lnAt L i)
      · -- rotten
        have hp : putL L a v = (9, L) := by unfold putL; rw [if_neg (fun h => h hin), if_neg (by rw [hw]; decide), ← hi, if_pos hrot]
        rw [hp]
        refine calls_body cx_ok (args := [.pointer (some ⟨p, 0, none⟩), .int .i64 kind, .int .i64 a, .int .i64 v, .func (.func 83) #[.pointer (some ⟨p, 0, none⟩)] #[]]) Tryz.func95 rfl 68 rfl rfl [.tmp 10] rfl ?_
        refine ⟨_, by decide, quo8 hin.1 ha.2, fun h0 => absurd h0 (by omega), fun _ => ?_⟩
        rw [← hi]
        refine call (h.has i) ?_
        rintro _ _ ⟨hx, rfl⟩
        rw [decide_eq_true (show inB L i from ⟨by omega, by omega⟩)] at hx
        subst hx
        refine call (word_calls v w) ?_
        rintro _ _ ⟨hx, rfl⟩
        have hx' : wordI v = decide (0 ≤ v ∧ v ≤ 1099511627775) := rfl
        rw [← hx', hw] at hx
        subst hx
        refine call (h.state hg i) ?_
        rintro _ w1 ⟨rfl, t1⟩
        rw [if_pos (show inB L i from ⟨by omega, by omega⟩)]
        refine ⟨fun _ => ?_, fun hne => absurd (show (((chk (lnAt L i).ws (lnAt L i).code).state : Nat) : Int) = 2 by have : (chk (lnAt L i).ws (lnAt L i).code).state = 2 := hrot; omega) hne⟩
        exact ⟨rfl, h.same t1⟩
      · have hp : putL L a v = (0, L.set i ((lnAt L i).put j v.toNat)) := by unfold putL; rw [if_neg (fun h => h hin), if_neg (by rw [hw]; decide), ← hi, ← hj, if_neg hrot]
        rw [hp, hae, ← hv1]
        obtain ⟨bl, bm, rows, evv, nev, hm, h2, h3, h4, rfl⟩ := h
        obtain ⟨vv, hr⟩ := row_at h2 hiL
        have hpl := h4 _ (lnAt_mem hiL)
        refine (put_calls hm hg (by omega) kind i j v.toNat (by omega) hv2 hr hrot (by show (lnAt L i).pend.length ≤ _; omega)).mono fun e w' ⟨x, he, hx, v', evv', hm', hs⟩ => ⟨x, he, hx, _, ⟨bl, bm, _, evv', nev + 1, hm', ?_, by omega, fun l hl => ?_, rfl⟩, hs⟩
        · rw [List.map_set, h2]; rfl
        · rcases List.mem_or_eq_of_mem_set hl with hl | rfl
          · have := h4 l hl; omega
          · simp only [Ln.put, List.length_append, List.length_cons, List.length_nil]; show (lnAt L i).pend.length + 1 ≤ _; omega
    · have hw' : wordI v = false := by simpa using hw
      have hp : putL L a v = (1, L) := by unfold putL; rw [if_neg (fun h => h hin), if_pos hw']
      rw [hp]
      refine calls_body cx_ok (args := [.pointer (some ⟨p, 0, none⟩), .int .i64 kind, .int .i64 a, .int .i64 v, .func (.func 83) #[.pointer (some ⟨p, 0, none⟩)] #[]]) Tryz.func95 rfl 68 rfl rfl [.tmp 10] rfl ?_
      refine ⟨_, by decide, quo8 hin.1 ha.2, fun h0 => absurd h0 (by omega), fun _ => ?_⟩
      rw [← hi]
      refine call (h.has i) ?_
      rintro _ _ ⟨hx, rfl⟩
      rw [decide_eq_true (show inB L i from ⟨by omega, by omega⟩)] at hx
      subst hx
      refine call (word_calls v w) ?_
      rintro _ _ ⟨hx, rfl⟩
      have hx' : wordI v = decide (0 ≤ v ∧ v ≤ 1099511627775) := rfl
      rw [← hx', hw'] at hx
      subst hx
      exact ⟨rfl, h.same (Tr.refl _ _)⟩
  · have hp : putL L a v = (40, L) := by unfold putL; rw [if_pos hin]
    rw [hp]
    refine calls_body cx_ok (args := [.pointer (some ⟨p, 0, none⟩), .int .i64 kind, .int .i64 a, .int .i64 v, .func (.func 83) #[.pointer (some ⟨p, 0, none⟩)] #[]]) Tryz.func95 rfl 68 rfl rfl [.tmp 10] rfl ?_
    by_cases h0 : a < 0
    · exact ⟨_, by decide, rfl, fun _ => ⟨rfl, h.same (Tr.refl _ _)⟩, fun hn => absurd h0 hn⟩
    · refine ⟨_, by decide, quo8 (by omega) ha.2, fun h => absurd h h0, fun _ => ?_⟩
      refine call (h.has _) ?_
      rintro _ _ ⟨hx, rfl⟩
      rw [decide_eq_false (fun hh => by have := hh.2; omega)] at hx
      subst hx
      exact ⟨rfl, h.same (Tr.refl _ _)⟩

theorem Store_gen (h : IMem w p L span N F) (hg : Gl w) (hN : N < 549755813888) (a v : Int) (ha : inI64 a) :
    Calls cx.P 47 #[.pointer (some ⟨p, 0, none⟩), .int .i64 a, .int .i64 v] w
      (Ret fun x w' => x = .int .i64 (putL L a v).1 ∧ ∃ F', IMem w' p (putL L a v).2 span (N + 1) F' ∧ Step w w' F F') := by
  refine calls_body cx_ok (args := [.pointer (some ⟨p, 0, none⟩), .int .i64 a, .int .i64 v]) Tryz.func47 rfl 13 rfl rfl [.tmp 6] rfl ?_
  refine call (put_gen h hg hN 1 a v ha) ?_
  rintro _ w1 ⟨rfl, h1⟩
  exact ⟨rfl, h1⟩

theorem Publish_gen (h : IMem w p L span N F) (hg : Gl w) (hN : N < 549755813888) (a v : Int) (ha : inI64 a) :
    Calls cx.P 51 #[.pointer (some ⟨p, 0, none⟩), .int .i64 a, .int .i64 v] w
      (Ret fun x w' => x = .int .i64 (putL L a v).1 ∧ ∃ F', IMem w' p (putL L a v).2 span (N + 1) F' ∧ Step w w' F F') := by
  refine calls_body cx_ok (args := [.pointer (some ⟨p, 0, none⟩), .int .i64 a, .int .i64 v]) Tryz.func51 rfl 13 rfl rfl [.tmp 6] rfl ?_
  refine call (put_gen h hg hN 2 a v ha) ?_
  rintro _ w1 ⟨rfl, h1⟩
  exact ⟨rfl, h1⟩

theorem Span_gen (h : IMem w p L span N F) (n : Int) :
    Calls cx.P 52 #[.pointer (some ⟨p, 0, none⟩), .int .i64 n] w (Ret fun _ w' => IMem w' p L n.toNat N F ∧ Step w w' F F) := by
  refine calls_body cx_ok (args := [.pointer (some ⟨p, 0, none⟩), .int .i64 n]) Tryz.func52 rfl 9 rfl rfl [] rfl ?_
  obtain ⟨bl, bm, rows, evv, nev, hm, h2, h3, h4, rfl⟩ := h
  obtain ⟨xs, hxs⟩ := hm.evs
  refine ⟨_, _, max_run _ n 0 _ _ _, ?_⟩
  refine ⟨_, _, hm.head, by show 2 < 4; decide, rfl, fun w1 u1 => ?_⟩
  have hn : (if (0 : Int) > n then (0 : Int) else n) = ((n.toNat : Nat) : Int) := by split <;> omega
  have B1 : Blk w1 p [.slice (some ⟨bl, 0, none⟩) rows.length rows.length, .map (some bm), .int .i64 (n.toNat : Nat), evv] 120 := by
    have := u1.blk
    rw [hn] at this
    exact this
  obtain ⟨n1, n2, n3⟩ := hm.ne
  refine ⟨⟨bl, bm, rows, evv, nev, ⟨⟨B1, hm.lines.tr u1.tr (by simp; exact fun e => n1 e.symm), fun r hr => Row.tr (hm.pend r hr) u1.tr fun b hb hmm => ?_, ⟨xs, Row.tr hxs u1.tr fun b hb hmm => ?_⟩, hm.ok, hm.nodup, hm.ge, hm.small, Nat.lt_of_lt_of_le hm.bmlt u1.tr.size⟩, hm.busy.tr u1.tr (by simp; exact fun e => n2 e.symm)⟩, h2, h3, h4, rfl⟩, u1.tr.mono (fun b hb _ => by simp at hb; rw [hb]; exact in_p), fun b hb => .inl hb⟩
  · obtain ⟨i, hi⟩ := List.mem_iff_getElem?.1 hr
    simp at hmm
    exact (hm.row_ne hi hb).1 hmm
  · simp at hmm
    exact (hm.ev_ne hb).1 hmm

theorem Flush_gen (h : IMem w p L span N F) (hN : N < 549755813888) (n : Int) :
    Calls cx.P 53 #[.pointer (some ⟨p, 0, none⟩), .int .i64 n] w
      (Ret fun x w' => x = .int .i64 (flushL L n).1 ∧ ∃ F', IMem w' p (flushL L n).2 span (N + 1) F' ∧ Step w w' F F') := by
  by_cases hi : inB L n
  · have hf : flushL L n = (0, L.set n.toNat (lnAt L n.toNat).flush) := by unfold flushL; rw [if_neg (fun h => h hi)]
    rw [hf]
    obtain ⟨h0, h1⟩ := hi
    obtain ⟨bl, bm, rows, evv, nev, hm, h2, h3, h4, rfl⟩ := h
    have hiL : n.toNat < L.length := by omega
    obtain ⟨vv, hr⟩ := row_at h2 hiL
    have hb := Flush_body hm (by omega) n.toNat hr
    rw [show ((n.toNat : Nat) : Int) = n by omega] at hb
    refine (calls_body cx_ok (args := [.pointer (some ⟨p, 0, none⟩), .int .i64 n]) Tryz.func53 rfl 29 rfl rfl [.tmp 4] rfl hb).mono fun e w' ⟨x, he, hx, evv', hm', hs⟩ => ⟨x, he, hx, _, ⟨bl, bm, _, evv', nev + 1, hm', ?_, by omega, fun l hl => ?_, rfl⟩, hs⟩
    · rw [List.map_set, h2]
    · rcases List.mem_or_eq_of_mem_set hl with hl | rfl
      · have := h4 l hl; omega
      · have := h4 _ (lnAt_mem hiL); show (lnAt L n.toNat).pend.length ≤ _; omega
  · have hf : flushL L n = (40, L) := by unfold flushL; rw [if_pos hi]
    rw [hf]
    refine calls_body cx_ok (args := [.pointer (some ⟨p, 0, none⟩), .int .i64 n]) Tryz.func53 rfl 29 rfl rfl [.tmp 4] rfl ?_
    refine call (h.has n) ?_
    rintro _ _ ⟨hv, rfl⟩
    rw [decide_eq_false hi] at hv
    subst hv
    exact ⟨rfl, h.same (Tr.refl _ _)⟩

theorem settle_pend (l : Ln) (k : Nat) : (l.settle k).pend.length ≤ l.pend.length := by
  unfold Ln.settle
  split
  · exact Nat.le_refl _
  · simp

theorem Fence_gen (h : IMem w p L span N F) (hg : Gl w) (hN : N < 549755813888) :
    Calls cx.P 35 #[.pointer (some ⟨p, 0, none⟩)] w (Ret fun _ w' => ∃ F', IMem w' p (fenceL L) span (N + 1) F' ∧ Step w w' F F') := by
  obtain ⟨bl, bm, rows, evv, nev, hm, h2, h3, h4, rfl⟩ := h
  have hb := Fence_body hm hg (by omega) (fun r hr => by have := h4 r.1 (by rw [← h2]; exact List.mem_map.2 ⟨r, hr, rfl⟩); omega)
  refine (calls_body cx_ok (args := [.pointer (some ⟨p, 0, none⟩)]) Tryz.func35 rfl 26 rfl rfl [] rfl hb).mono fun e w' ⟨x, he, rows', evv', hr', hm', hs⟩ => ⟨x, he, _, ⟨bl, bm, rows', evv', nev + 1, hm', ?_, by omega, fun l hl => ?_, rfl⟩, hs⟩
  · rw [hr', ← h2]
    unfold fenceL
    rw [List.map_map]
    rfl
  · unfold fenceL at hl
    obtain ⟨l0, hl0, rfl⟩ := List.mem_map.1 hl
    have := h4 l0 hl0
    have := settle_pend l0 l0.mark
    omega

end

end Go.Proofs.YthepaakejpbppaaGreatDoor

/- The program's memory: contracts of its calls for every argument, II: Evict, Heal, Rot. -/
namespace Go.Proofs.YthepaakejpbppaaGreatDoor
open Go.E

section
variable {w : World} {p : Nat} {L : List Ln} {span N : Nat} {F : List Nat}

/-- Behind a change of one line: the event is noted. -/
theorem IMem.note_of {bl bm nev : Nat} {rows : List (Ln × Value)} {evv : Value} (hm : MemW w p bl bm rows evv span nev) (hrows : rows.map (·.1) = L) (hn : nev ≤ N) (hp : ∀ l ∈ L, l.pend.length ≤ N + 1) (hN : N < 549755813888) {w0 : World} {F0 : List Nat} (hs : Step w0 w F0 (foot p bl bm rows evv)) (cs : List Value) (hl : cs.length = 12) (h1 : cs.all E.one = true) :
    Calls cx.P 83 #[.pointer (some ⟨p, 0, none⟩), .agg cs.toArray] w (Ret fun _ w' => ∃ F', IMem w' p L span (N + 1) F' ∧ Step w0 w' F0 F') := by
  refine (note_calls hm.toMemX (by omega) cs hl h1).mono fun e w' ⟨v, he, evv', m3, t3, f3⟩ => ⟨v, he, foot p bl bm rows evv', ⟨bl, bm, rows, evv', nev + 1, hm.note m3 t3, hrows, by omega, hp, rfl⟩, hs.trans ⟨t3.mono fun b hb _ => ?_, f3⟩⟩
  rcases List.mem_cons.1 hb with rfl | hb
  · exact in_p
  · exact in_ev (by simpa using hb)

theorem evict_busy {rows : List (Ln × Value)} {i k : Nat} {l : Ln} {v : Value} (hi : i < rows.length) (hk : k ≠ 0) : busyM (rows.set i (l.settle k, v)) = if decide (l.pend.length - k = 0) = true then delM (busyM rows) (i : Nat) else setM (busyM rows) (i : Nat) (.bool true) := by
  rw [busyM_set hi]
  have : (l.settle k).pend = l.pend.drop k := by unfold Ln.settle; rw [if_neg hk]
  have h2 : (l.settle k).pend = [] ↔ l.pend.length - k = 0 := by
    rw [this, ← List.length_eq_zero_iff, List.length_drop]
  by_cases h3 : l.pend.length - k = 0
  · rw [if_pos (h2.2 h3), if_pos (by simpa using h3)]
  · rw [if_neg (fun h => h3 (h2.1 h)), if_neg (by simpa using h3)]

theorem Evict_gen (h : IMem w p L span N F) (hg : Gl w) (hN : N < 549755813888) (n k : Int) :
    Calls cx.P 54 #[.pointer (some ⟨p, 0, none⟩), .int .i64 n, .int .i64 k] w
      (Ret fun x w' => x = .int .i64 (evictL L n k).1 ∧ ∃ F', IMem w' p (evictL L n k).2 span (N + 1) F' ∧ Step w w' F F') := by
  refine calls_body cx_ok (args := [.pointer (some ⟨p, 0, none⟩), .int .i64 n, .int .i64 k]) Tryz.func54 rfl 35 rfl rfl [.tmp 6] rfl ?_
  refine call (h.has n) ?_
  rintro _ _ ⟨rfl, rfl⟩
  unfold evictL
  by_cases hi : inB L n
  · rw [decide_eq_true hi, if_neg (fun h => h hi)]
    have hi' := hi
    obtain ⟨h0, h1⟩ := hi'
    have hiL : n.toNat < L.length := by omega
    obtain ⟨i, hin⟩ : ∃ i, i = n.toNat := ⟨_, rfl⟩
    have hne : n = (i : Int) := by omega
    rw [← hin] at hiL ⊢
    by_cases hk : 1 ≤ k ∧ k ≤ (lnAt L i).pend.length
    · rw [if_neg (fun h => h hk)]
      obtain ⟨bl, bm, rows, evv, nev, hm, h2, h3, h4, rfl⟩ := h
      obtain ⟨vv, hr⟩ := row_at h2 hiL
      have hir : i < rows.length := (List.getElem?_eq_some_iff.1 hr).1
      have hpl := h4 _ (lnAt_mem hiL)
      obtain ⟨a, c, hvv⟩ := Row.slice (hm.pend _ (List.mem_of_getElem? hr))
      have hvv : vv = .slice a (lnAt L i).pend.length c := hvv
      have hpc := hm.pcell hr
      rw [hvv] at hpc
      obtain ⟨q, hq⟩ : ∃ q, q = k.toNat := ⟨_, rfl⟩
      have hke : k = (q : Int) := by omega
      rw [← hq, hne, hke]
      refine ⟨fun h => absurd h (by omega), fun _ => ?_⟩
      refine ⟨_, hm.head.cell rfl, i, rfl, hir, _, hpc, fun h => absurd h (by omega), fun _ => ?_⟩
      have hset := settle_calls hm.toMemX hg i q hr (by show q ≤ (lnAt L i).pend.length; omega) (by omega) (by show (lnAt L i).pend.length ≤ _; omega) (rest_im (bl := bl) (bm := bm) (m := busyM rows) hm.ne.2.2) hm.busy
      refine call hset ?_
      rintro _ w2 ⟨v', m2, hb2, t2, hf2⟩
      have hfs := foot_set hm.nodup hm.foot_lt (r' := ((lnAt L i).settle q, v')) hr (fun b hb => .inr (hf2 b hb))
      have mw2 : MemW w2 p bl bm (rows.set i ((lnAt L i).settle q, v')) evv span nev := ⟨m2, by rw [evict_busy hir (by omega)]; exact hb2⟩
      have hs2 : Step w w2 (foot p bl bm rows evv) (foot p bl bm (rows.set i ((lnAt L i).settle q, v')) evv) := ⟨t2.mono fun b hb _ => (show b = bl ∨ b = bm by simpa using hb).elim (fun e => e ▸ in_bl) (fun e => e ▸ in_bm), hfs.2⟩
      refine ⟨_, rfl, ?_⟩
      refine call (IMem.note_of mw2 (L := L.set i ((lnAt L i).settle q)) (N := N) (by rw [List.map_set, h2]) h3 (fun l hl => ?_) hN hs2 _ rfl rfl) ?_
      · rcases List.mem_or_eq_of_mem_set hl with hl | rfl
        · have := h4 l hl; omega
        · have := settle_pend (lnAt L i) q; omega
      rintro _ w3 hF
      exact ⟨rfl, hF⟩
    · rw [if_pos hk]
      obtain ⟨bl, bm, rows, evv, nev, hm, h2, h3, h4, rfl⟩ := id h
      obtain ⟨vv, hr⟩ := row_at h2 hiL
      have hir : i < rows.length := (List.getElem?_eq_some_iff.1 hr).1
      obtain ⟨a, c, hvv⟩ := Row.slice (hm.pend _ (List.mem_of_getElem? hr))
      have hvv : vv = .slice a (lnAt L i).pend.length c := hvv
      have hpc := hm.pcell hr
      rw [hvv] at hpc
      rw [hne]
      refine ⟨fun _ => ⟨rfl, h.same (Tr.refl _ _)⟩, fun hk1 => ?_⟩
      refine ⟨_, hm.head.cell rfl, i, rfl, hir, _, hpc, fun _ => ⟨rfl, h.same (Tr.refl _ _)⟩, fun hk2 => absurd (show 1 ≤ k ∧ k ≤ ((lnAt L i).pend.length : Int) from ⟨by omega, by omega⟩) hk⟩
  · rw [decide_eq_false hi, if_pos hi]
    exact ⟨rfl, h.same (Tr.refl _ _)⟩

theorem line9_fill (ws : List Nat) (h8 : ws.length = 8) (c : Nat) : fillL ([(0, 8), (8, 1)][·]?) [.int .i64 0, .int .i64 0, .int .i64 0, .int .i64 0, .int .i64 0, .int .i64 0, .int .i64 0, .int .i64 0, .int .i64 0] [(0, .agg (wcells ws).toArray), (1, .int .i64 (c : Nat))] = some (ilc (ws, c)) := by
  match ws, h8 with
  | [a, b, c', d, e, f, g, h], _ => rfl
theorem line11_fill (ws : List Nat) (h8 : ws.length = 8) (c : Nat) : fillL ([(0, 9), (9, 1), (10, 1)][·]?) [.int .i64 0, .int .i64 0, .int .i64 0, .int .i64 0, .int .i64 0, .int .i64 0, .int .i64 0, .int .i64 0, .int .i64 0, .slice none 0 0, .int .i64 0] [(0, .agg (ilc (ws, c)).toArray)] = some (lcells (⟨ws, c, [], 0⟩, nilv)) := by
  match ws, h8 with
  | [a, b, c', d, e, f, g, h], _ => rfl

/-- An event with words in its last cells. -/
theorem ev_fill (k n _c : Int) (ws : List Nat) (h8 : ws.length = 8) : ∃ cs, fillL ([(0, 1), (1, 1), (2, 1), (3, 1), (4, 8)][·]?) (List.replicate 12 (.int .i64 0)) [(0, .int .i64 k), (1, .int .i64 n), (4, .agg (wcells ws).toArray)] = some cs ∧ cs.length = 12 ∧ cs.all E.one = true := by
  match ws, h8 with
  | [a, b, c', d, e, f, g, h], _ => exact ⟨_, rfl, rfl, rfl⟩
theorem ev_fill2 (k n c : Int) (ws : List Nat) (h8 : ws.length = 8) : ∃ cs, fillL ([(0, 1), (1, 1), (2, 1), (3, 1), (4, 8)][·]?) (List.replicate 12 (.int .i64 0)) [(0, .int .i64 k), (1, .int .i64 n), (4, .agg (wcells ws).toArray), (2, .int .i64 c)] = some cs ∧ cs.length = 12 ∧ cs.all E.one = true := by
  match ws, h8 with
  | [a, b, c', d, e, f, g, h], _ => exact ⟨_, rfl, rfl, rfl⟩

theorem Heal_gen (h : IMem w p L span N F) (hg : Gl w) (hN : N < 549755813888) (n : Int) (xs : List Int) (h8 : xs.length = 8) :
    Calls cx.P 55 #[.pointer (some ⟨p, 0, none⟩), .int .i64 n, .agg (i64s xs).toArray] w
      (Ret fun x w' => x = .int .i64 (healL L n xs).1 ∧ ∃ F', IMem w' p (healL L n xs).2 span (N + 1) F' ∧ Step w w' F F') := by
  refine calls_body cx_ok (args := [.pointer (some ⟨p, 0, none⟩), .int .i64 n, .agg (i64s xs).toArray]) Tryz.func55 rfl 33 rfl rfl [.tmp 6] rfl ?_
  intro b5 w1 n1
  have e1 := n1.num; have z1 := n1.size
  have B5 : Blk w1 b5 (i64s xs) 69 := n1.blk
  have h1 := h.ext n1.tr
  have hb5 : b5 ∉ F := fun hm => by have := h.lt b5 hm; omega
  have fin : ∀ (W : World) (e : Int), Tr [] w W → (Value.int .i64 e = .int .i64 e ∧ ∃ F', IMem W p L span (N + 1) F' ∧ Step w W F F') := fun W e t => ⟨rfl, h.same t⟩
  refine call (h1.has n) ?_
  rintro _ _ ⟨rfl, rfl⟩
  unfold healL
  by_cases hi : inB L n
  · rw [decide_eq_true hi, if_neg (fun h => h hi)]
    refine ⟨_, B5.all, by rw [i64s_len]; exact h8, ?_⟩
    refine call (words_calls xs h8) ?_
    rintro _ w2 ⟨rfl, t2⟩
    cases hw : xs.all wordI with
    | false => exact fin w2 1 (n1.tr.ext t2)
    | true =>
    rw [if_neg (by decide)]
    obtain ⟨hl8, hxe⟩ := nat_words h8 hw
    obtain ⟨ws, hws⟩ : ∃ ws, ws = xs.map Int.toNat := ⟨_, rfl⟩
    rw [← hws] at hl8 hxe ⊢
    rw [hxe] at B5
    have h2' := h1.ext t2
    have t12 := n1.tr.ext t2
    obtain ⟨i, hin⟩ : ∃ i, i = n.toNat := ⟨_, rfl⟩
    obtain ⟨h0, hlt⟩ := hi
    have hne : n = (i : Int) := by omega
    have hiL : i < L.length := by omega
    rw [← hin]
    obtain ⟨bl, bm, rows, evv, nev, hm, h2, h3, h4, rfl⟩ := h2'
    obtain ⟨vv, hr⟩ := row_at h2 hiL
    have hir : i < rows.length := (List.getElem?_eq_some_iff.1 hr).1
    have hlen := wcells_len hl8
    have B52 := B5.ext t2
    obtain ⟨m1, m2, m3⟩ := hm.ne
    refine draw_rule cx_ok [] (Plan.takes [0, 1, 2, 3, 4, 5, 6] (.one true 7 (Plan.takes [8, 9, 10] (.one false 11 .done)))) (by kernel_rfl) ?_
    intro w3 d
    refine ⟨_, fun w' t => t.cell (hm.head.cell rfl) (by simp), _, fun w' t => B52.all.tr t (by simp), hlen, _, fun w' t => B52.all.tr t (by simp), hlen, ?_⟩
    refine ⟨?_, trivial⟩
    refine call (Encode_calls ws hl8 w3 (((hg.ext n1.tr).ext t2).ext d.tr)) ?_
    rintro _ w4 ⟨rfl, t4⟩
    have t24 := d.tr.ext t4
    refine ⟨t24, ?_⟩
    rw [hne]
    refine ⟨_, line9_fill ws hl8.len (enc ws), _, line11_fill ws hl8.len (enc ws), i, rfl, hir, ?_⟩
    obtain ⟨r', hr'⟩ : ∃ r' : Ln × Value, r' = (quiet ws, nilv) := ⟨_, rfl⟩
    have hL := hm.lens
    have hok' : r'.1.Ok := by rw [hr']; exact quiet_ok hl8
    have hl11 : (lcells r').length = 11 := lcells_len hok'
    have hone : (lcells r').all E.one = true := by rw [hr']; simp [lcells, wcells, E.one, nilv]
    have hrq : lcells (⟨ws, enc ws, [], 0⟩, nilv) = lcells r' := by rw [hr']; rfl
    refine ⟨⟨_, _, hm.lines.ext t24, by rw [hrq]; exact hl11, by rw [fm_len hL]; show 0 + i * 11 + 11 ≤ _; omega, by rw [hrq]; exact hone, fun w5 u5 => ?_⟩, trivial⟩
    have B5' : Blk w5 bl ((rows.set i r').flatMap lcells) 115 := by
      have hb := u5.blk
      rw [← fm_splice (k := 11) (n := 11) (o := 0) (vs := lcells r') splice (by funext l o n vs; rfl) hL hr (by omega) (by rw [splice_all (hL _ (List.mem_of_getElem? hr)) hl11])]
      rw [show i * 11 + 0 = 0 + i * 11 by omega, ← hrq]
      exact hb
    have t25 : Tr [bl] _ w5 := t24.of_ext.same u5.tr
    have H5 := hm.head.tr t25 (by simp; exact m1)
    have hp5 : w5.cell? ⟨bl, 0 + i * 11 + 9, none⟩ = some (.slice none 0 0) := by
      rw [show 0 + i * 11 + 9 = i * 11 + 9 by omega]
      refine B5'.cell (fm_get (lens_set hL hl11) (get_set hir) ?_)
      rw [hr']
      exact lcells_pend (r := (quiet ws, nilv)) (quiet_ok hl8)
    refine call (rest_calls H5 hir hp5 (rest_im (bl := bl) (bm := bm) (m := busyM rows) m3) (hm.busy.tr t25 (by simp; exact fun e => m3 e.symm))) ?_
    rintro _ w6 ⟨hb6, t6⟩
    have t26 : Tr [bl, bm] _ w6 := (t25.mono (fun b hb _ => by simp at hb; simp [hb])).trans t6 (fun _ h => h) (fun b hb _ => by simp at hb; simp [hb])
    obtain ⟨mx, fx⟩ := hm.set hr (r' := r') t26 (fun b hb => by simp at hb; rcases hb with e | e; exact .inl e; exact .inr (.inl e)) (B5'.tr t6 (by simp; exact m3)) (by rw [hr']; exact World.ownsRow_nil _ _ _ _) hok' (fun b hb => by rw [hr'] at hb; simp [nilv, Value.ownBlock] at hb)
    have mw : MemW w6 p bl bm (rows.set i r') evv span nev := ⟨mx, by
      have hp : r'.1.pend = [] := by rw [hr']; rfl
      rw [busyM_set hir, if_pos hp]
      exact hb6⟩
    have hs : Step w w6 (foot p bl bm rows evv) (foot p bl bm (rows.set i r') evv) := Step.of_ext t12 ⟨t26.mono fun b hb _ => (show b = bl ∨ b = bm by simpa using hb).elim (fun e => e ▸ in_bl) (fun e => e ▸ in_bm), fx⟩
    have hb5r : b5 ≠ bl ∧ b5 ≠ bm := ⟨fun e => hb5 (e ▸ in_bl), fun e => hb5 (e ▸ in_bm)⟩
    refine ⟨_, ((B52.ext t24).tr u5.tr (by simp; exact hb5r.1)).tr t6 (by simp; exact hb5r.2) |>.all, hlen, ?_⟩
    obtain ⟨cs, hcs, hcl, hc1⟩ := ev_fill 6 (i : Nat) 0 ws hl8.len
    refine ⟨cs, hcs, ?_⟩
    refine call (IMem.note_of mw (L := L.set i (quiet ws)) (N := N) (by rw [List.map_set, h2, hr']) h3 (fun l hl => ?_) hN hs cs hcl hc1) ?_
    · rcases List.mem_or_eq_of_mem_set hl with hl | rfl
      · have := h4 l hl; omega
      · show 0 ≤ N + 1; omega
    rintro _ w7 hF
    exact ⟨rfl, hF⟩
  · rw [decide_eq_false hi, if_pos hi]
    exact fin _ 40 n1.tr

end

end Go.Proofs.YthepaakejpbppaaGreatDoor

/- The program's memory: contracts of its calls for every argument, III: Rot, Load. -/
namespace Go.Proofs.YthepaakejpbppaaGreatDoor
open Go.E

/-- The words, of which the first k have been turned. -/
def xorK (ws xs : List Nat) (k : Nat) : List Nat := xorW (ws.take k) (xs.take k) ++ ws.drop k
theorem xorK_zero (ws xs : List Nat) : xorK ws xs 0 = ws := by simp [xorK, xorW]
theorem xorK_all {ws xs : List Nat} {k : Nat} (h1 : ws.length = k) (h2 : xs.length = k) : xorK ws xs k = xorW ws xs := by
  unfold xorK
  rw [List.take_of_length_le (by omega), List.take_of_length_le (by omega), List.drop_of_length_le (by omega), List.append_nil]
theorem xorK_step {ws xs : List Nat} {k x y : Nat} (hx : ws[k]? = some x) (hy : xs[k]? = some y) : (xorK ws xs k).set k (x ^^^ y) = xorK ws xs (k + 1) ∧ (xorK ws xs k)[k]? = some x := by
  have hk1 := (List.getElem?_eq_some_iff.1 hx).1
  have hk2 := (List.getElem?_eq_some_iff.1 hy).1
  have hl : (xorW (ws.take k) (xs.take k)).length = k := by simp [xorW]; omega
  unfold xorK
  constructor
  · rw [List.set_append, if_neg (by omega), hl, Nat.sub_self, List.drop_eq_getElem_cons hk1, List.set_cons_zero, take_snoc hx, take_snoc hy]
    unfold xorW
    rw [List.zipWith_append (by simp; omega)]
    simp
  · rw [List.getElem?_append_right (by omega), hl, Nat.sub_self, List.getElem?_drop]
    exact hx
theorem xorK_len {ws xs : List Nat} {k : Nat} (h : xs.length = ws.length) (hk : k ≤ ws.length) : (xorK ws xs k).length = ws.length := by
  simp [xorK, xorW]; omega

def wline (l : Ln) (ws : List Nat) : Ln := { l with ws := ws }

section
variable {w : World} {p : Nat} {L : List Ln} {span N : Nat} {F : List Nat}

theorem wline_set {rows : List (Ln × Value)} (hL : ∀ r ∈ rows, (lcells r).length = 11) {i k x : Nat} {l : Ln} {v : Value} {ws : List Nat} (hr : rows[i]? = some (wline l ws, v)) (hk : k < ws.length) (h8 : ws.length = 8) :
    (rows.flatMap lcells).set (i * 11 + k) (.int .i64 (x : Nat)) = (rows.set i (wline l (ws.set k x), v)).flatMap lcells := by
  refine line_set (j := k) (r' := (wline l (ws.set k x), v)) hL hr (by omega) ?_
  show wcells (ws.set k x) ++ _ = (wcells ws ++ _).set k _
  rw [wcells_set, List.set_append, if_pos (by simp [wcells]; omega)]
  rfl

set_option maxHeartbeats 1000000 in
theorem Rot_gen (h : IMem w p L span N F) (hN : N < 549755813888) (n : Int) (xs : List Int) (h8 : xs.length = 8) (c : Int) :
    Calls cx.P 28 #[.pointer (some ⟨p, 0, none⟩), .int .i64 n, .agg (i64s xs).toArray, .int .i64 c] w
      (Ret fun x w' => x = .int .i64 (rotL L n xs c).1 ∧ ∃ F', IMem w' p (rotL L n xs c).2 span (N + 1) F' ∧ Step w w' F F') := by
  refine calls_body cx_ok (args := [.pointer (some ⟨p, 0, none⟩), .int .i64 n, .agg (i64s xs).toArray, .int .i64 c]) Tryz.func28 rfl 82 rfl rfl [.tmp 8] rfl ?_
  intro b6 w1 n1
  have e1 := n1.num; have z1 := n1.size
  have B6 : Blk w1 b6 (i64s xs) 69 := n1.blk
  have h1 := h.ext n1.tr
  have hb6 : b6 ∉ F := fun hm => by have := h.lt b6 hm; omega
  have fin : ∀ (W : World) (e : Int), Tr [] w W → (Value.int .i64 e = .int .i64 e ∧ ∃ F', IMem W p L span (N + 1) F' ∧ Step w W F F') := fun W e t => ⟨rfl, h.same t⟩
  refine call (h1.has n) ?_
  rintro _ _ ⟨rfl, rfl⟩
  unfold rotL
  by_cases hi : inB L n
  · rw [decide_eq_true hi, if_neg (fun h => h hi)]
    refine ⟨_, B6.all, by rw [i64s_len]; exact h8, ?_⟩
    refine call (words_calls xs h8) ?_
    rintro _ w2 ⟨rfl, t2⟩
    have t12 := n1.tr.ext t2
    cases hw : xs.all wordI with
    | false => rw [if_pos (.inl rfl)]; exact fin w2 1 t12
    | true =>
    refine ⟨fun hc0 => ?_, fun hc0 => ⟨fun hc1 => ?_, fun hc1 => ?_⟩⟩
    · rw [if_pos (.inr (.inl hc0))]; exact fin w2 1 t12
    · rw [if_pos (.inr (.inr (by omega)))]; exact fin w2 1 t12
    rw [if_neg (by simp; omega)]
    obtain ⟨hl8, hxe⟩ := nat_words h8 hw
    obtain ⟨ys, hys⟩ : ∃ ys, ys = xs.map Int.toNat := ⟨_, rfl⟩
    rw [← hys] at hl8 hxe ⊢
    rw [hxe] at B6
    have h2' := h1.ext t2
    obtain ⟨i, hin⟩ : ∃ i, i = n.toNat := ⟨_, rfl⟩
    obtain ⟨q, hq⟩ : ∃ q, q = c.toNat := ⟨_, rfl⟩
    obtain ⟨h0, hlt⟩ := hi
    have hne : n = (i : Int) := by omega
    have hce : c = (q : Int) := by omega
    have hiL : i < L.length := by omega
    rw [← hin, ← hq]
    obtain ⟨bl, bm, rows, evv, nev, hm, h2, h3, h4, rfl⟩ := h2'
    obtain ⟨vv, hr⟩ := row_at h2 hiL
    obtain ⟨l, hld⟩ : ∃ l, l = lnAt L i := ⟨_, rfl⟩
    rw [← hld] at hr ⊢
    have hir : i < rows.length := (List.getElem?_eq_some_iff.1 hr).1
    have hok : l.Ok := hm.ok _ (List.mem_of_getElem? hr)
    have hlen := wcells_len hl8
    have B62 := B6.ext t2
    obtain ⟨m1, m2, m3⟩ := hm.ne
    have hrow := hm.pend _ (List.mem_of_getElem? hr)
    obtain ⟨a, cc, hvv⟩ := Row.slice hrow
    have hvv : vv = .slice a l.pend.length cc := hvv
    have hpc := hm.pcell hr
    rw [hvv] at hpc
    rw [hne]
    refine ⟨_, hm.head.cell rfl, i, rfl, hir, _, hpc, fun hp => ?_, fun hp => ?_⟩
    · rw [if_pos (fun e => by rw [e] at hp; exact absurd hp (by decide))]; exact fin w2 4 t12
    have hpend : l.pend = [] := List.eq_nil_of_length_eq_zero (by omega)
    rw [if_neg (fun h => h hpend)]
    have hb6r : b6 ≠ bl := fun e => hb6 (e ▸ in_bl)
    have hL := hm.lens
    refine ⟨_, B62.all, hlen, ?_⟩
    obtain ⟨R, hR⟩ : ∃ R : Nat → List (Ln × Value), R = fun k => rows.set i (wline l (xorK l.ws ys k), vv) := ⟨_, rfl⟩
    have hx8 : ∀ k, k ≤ 8 → (xorK l.ws ys k).length = 8 := fun k hk => by rw [xorK_len (by rw [hl8.len, hok.ws.len]) (by rw [hok.ws.len]; exact hk), hok.ws.len]
    have hRL : ∀ k, k ≤ 8 → ∀ r ∈ R k, (lcells r).length = 11 := fun k hk r hr' => by
      rw [hR] at hr'
      rcases List.mem_or_eq_of_mem_set hr' with hr' | rfl
      · exact hL r hr'
      · show (wcells (xorK l.ws ys k) ++ _).length = 11
        rw [List.length_append]
        simp only [wcells, List.length_map, hx8 k hk, List.length_cons, List.length_nil]
    have hRget : ∀ k, (R k)[i]? = some (wline l (xorK l.ws ys k), vv) := fun k => by rw [hR]; exact get_set hir
    have hR0 : R 0 = rows := by
      rw [hR]
      simp only [xorK_zero]
      have : (wline l l.ws, vv) = rows[i] := by rw [(List.getElem?_eq_some_iff.1 hr).2]; rfl
      rw [this]
      exact List.set_getElem_self _
    have hRlen : ∀ k, k ≤ 8 → ((R k).flatMap lcells).length = rows.length * 11 := fun k hk => by rw [fm_len (hRL k hk), hR]; simp
    refine loop_rule cx_ok (fun k W => k ≤ 8 ∧ Tr [bl] w2 W ∧ Blk W bl ((R k).flatMap lcells) 115) (fun k : Nat => [(0, .pointer (some ⟨p, 0, none⟩)), (1, .int .i64 i), (3, .int .i64 c), (6, .pointer (some ⟨b6, 0, none⟩)), (39, .agg (wcells ys).toArray), (40, .int .i64 k)]) (fun k => 8 - k) 0
      ⟨rfl, rfl, rfl, rfl, rfl, rfl, trivial⟩ ⟨by omega, Tr.refl _ _, by rw [hR0]; exact hm.lines⟩ ?_
    rintro k W ⟨hk, tW, BW⟩
    have HW := hm.head.tr tW (by simp; exact m1)
    refine ⟨fun hlt8 => ?_, fun hge => ?_⟩
    · have hk8 : k < 8 := by omega
      obtain ⟨y, hy, hy40, _, hyc⟩ := hl8.at hk8
      obtain ⟨x, hx, hx40, _, _⟩ := hok.ws.at hk8
      obtain ⟨hst, hgk⟩ := xorK_step hx hy
      have hcell : W.cell? ⟨bl, 0 + i * 11 + 0 + 0 + k * 1, none⟩ = some (.int .i64 (x : Nat)) := by
        rw [show 0 + i * 11 + 0 + 0 + k * 1 = i * 11 + k by omega]
        refine BW.cell (fm_get (hRL k hk) (hRget k) ?_)
        show (wcells (xorK l.ws ys k) ++ _)[k]? = _
        rw [List.getElem?_append_left (by simp [wcells, hx8 k hk]; exact hk8)]
        simp [wcells, hgk]
      refine ⟨k, rfl, hk8, _, by rw [Nat.mul_one]; exact hyc, ?_⟩
      refine draw_rule cx_ok [] (Plan.takes [0, 1, 2, 3, 4, 5, 6, 7, 8, 9, 10, 11, 12] (.one true 13 (.one true 14 (.one true 15 (.one true 16 (.one false 17 .done)))))) (by kernel_rfl) ?_
      intro W1 d
      refine ⟨_, fun w' t => t.cell (HW.cell rfl) (by simp), i, rfl, hir, k, rfl, hk8, _, fun w' t => t.cell hcell (by simp), _, bits_xor _ _ (by omega) (by omega), ?_⟩
      refine ⟨⟨i, rfl, hir, d.tr, ?_⟩, trivial⟩
      refine ⟨⟨d.tr, ?_⟩, trivial⟩
      refine ⟨⟨d.tr, ?_⟩, trivial⟩
      refine ⟨⟨k, rfl, hk8, d.tr, ?_⟩, trivial⟩
      refine ⟨⟨_, _, BW.ext d.tr, by rw [hRlen k hk]; show 0 + i * 11 + 0 + 0 + k * 1 < _; omega, rfl, fun W2 u2 => ?_⟩, trivial⟩
      have B2 : Blk W2 bl ((R (k + 1)).flatMap lcells) 115 := by
        have hb := u2.blk
        rw [show 0 + i * 11 + 0 + 0 + k * 1 = i * 11 + k by omega, wline_set (hRL k hk) (hRget k) (by rw [hx8 k hk]; exact hk8) (hx8 k hk), hst] at hb
        have : (R k).set i (wline l (xorK l.ws ys (k + 1)), vv) = R (k + 1) := by rw [hR]; simp
        rw [this] at hb
        exact hb
      refine ⟨((k + 1 : Nat) : Int), by rw [w64 (by omega)]; omega, ?_⟩
      exact ⟨rfl, k + 1, ⟨rfl, rfl, rfl, rfl, rfl, rfl, trivial⟩, ⟨by omega, (tW.trans d.tr (fun _ h => h) (fun _ h _ => by cases h)).same u2.tr, B2⟩, by omega⟩
    · have hk8 : k = 8 := by omega
      rw [hk8] at BW
      have hcode : W.cell? ⟨bl, 0 + i * 11 + 0 + 8, none⟩ = some (.int .i64 (l.code : Nat)) := by
        rw [show 0 + i * 11 + 0 + 8 = i * 11 + 8 by omega]
        exact BW.cell (fm_get (hRL 8 (by omega)) (hRget 8) (get_tail 8 (by simp only [wcells, List.length_map]; exact hx8 8 (by omega)) 0))
      have hcl := hok.code
      rw [hce]
      refine ⟨_, HW.cell rfl, i, rfl, hir, _, hcode, _, bits_xor _ _ (by omega) (by omega), i, rfl, hir, _, _, BW, by rw [hRlen 8 (by omega)]; show 0 + i * 11 + 0 + 8 < _; omega, rfl, fun W1 u1 => ?_⟩
      obtain ⟨r', hr'⟩ : ∃ r' : Ln × Value, r' = (l.rot ys q, vv) := ⟨_, rfl⟩
      have hx : xorK l.ws ys 8 = xorW l.ws ys := xorK_all hok.ws.len hl8.len
      have B1 : Blk W1 bl ((rows.set i r').flatMap lcells) 115 := by
        have hb := u1.blk
        rw [show 0 + i * 11 + 0 + 8 = i * 11 + 8 by omega, line_set (j := 8) (r' := r') (hRL 8 (by omega)) (hRget 8) (by omega) (lcells_tail (r' := r') (r := (wline l (xorK l.ws ys 8), vv)) (j := 0) (by rw [hr', hx]; rfl) (by show (xorK l.ws ys 8).length = 8; exact hx8 8 (by omega)) (.int .i64 (l.code ^^^ q : Nat)) (by rw [hr']; rfl) (by omega))] at hb
        have : (R 8).set i r' = rows.set i r' := by rw [hR]; simp
        rw [this] at hb
        exact hb
      have t21 : Tr [bl] w2 W1 := tW.same u1.tr
      have hokr : r'.1.Ok := by rw [hr']; exact hok.rot hl8 (by omega)
      have hp' : r'.1.pend = [] := by rw [hr']; exact hpend
      obtain ⟨mx, fx⟩ := hm.set hr (r' := r') t21 (fun b hb => .inl (by simpa using hb)) B1 (by
        rw [hr']
        exact Row.tr hrow t21 fun b hb hmm => (hm.row_ne hr hb).2.1 (by simpa using hmm)) hokr (fun b hb => .inl (by rw [hr'] at hb; exact hb))
      have mw : MemW W1 p bl bm (rows.set i r') evv span nev := ⟨mx, by
        have e : busyM (rows.set i r') = busyM rows := by
          have e0 : busyM rows = busyM (rows.set i (l, vv)) := by
            rw [← (List.getElem?_eq_some_iff.1 hr).2, List.set_getElem_self]
          rw [e0, busyM_set hir, busyM_set hir, if_pos hp', if_pos hpend]
        rw [e]
        exact hm.busy.tr t21 (by simp; exact fun e => m3 e.symm)⟩
      have hs : Step w W1 (foot p bl bm rows evv) (foot p bl bm (rows.set i r') evv) := Step.of_ext t12 ⟨t21.mono fun b hb _ => by simp at hb; rw [hb]; exact in_bl, fx⟩
      refine ⟨_, (B62.tr t21 (by simp; exact hb6r)).all, hlen, ?_⟩
      obtain ⟨cs, hcs, hcl', hc1'⟩ := ev_fill2 7 (i : Nat) (q : Nat) ys hl8.len
      refine ⟨cs, hcs, ?_⟩
      refine call (IMem.note_of mw (L := L.set i (l.rot ys q)) (N := N) (by rw [List.map_set, h2, hr']) h3 (fun l' hl' => ?_) hN hs cs hcl' hc1') ?_
      · rcases List.mem_or_eq_of_mem_set hl' with hl' | rfl
        · have := h4 l' hl'; omega
        · show l.pend.length ≤ N + 1; rw [hpend]; show 0 ≤ N + 1; omega
      rintro _ w7 hF
      exact ⟨rfl, hF⟩
  · rw [decide_eq_false hi, if_pos hi]
    exact fin _ 40 n1.tr

/-- What Load says of an address. -/
def loadL (L : List Ln) (a : Int) : Int × Int :=
  if ¬ (0 ≤ a ∧ a < 8 * L.length) then (0, 40)
  else match (lnAt L (a.toNat / 8)).shows (lnAt L (a.toNat / 8)).pend.length with
    | some ws => (((ws.getD (a.toNat % 8) 0 : Nat) : Int), 0)
    | none => (0, 9)

theorem Load_gen (h : IMem w p L span N F) (hg : Gl w) (a : Int) (ha : inI64 a) :
    Calls cx.P 59 #[.pointer (some ⟨p, 0, none⟩), .int .i64 a] w (Ret fun v w' => v = .tuple #[.int .i64 (loadL L a).1, .int .i64 (loadL L a).2] ∧ Tr [] w w') := by
  have hsm := h.small
  unfold loadL
  by_cases hin : 0 ≤ a ∧ a < 8 * L.length
  · rw [if_neg (fun h => h hin)]
    obtain ⟨i, hi⟩ : ∃ i, i = a.toNat / 8 := ⟨_, rfl⟩
    obtain ⟨j, hj⟩ : ∃ j, j = a.toNat % 8 := ⟨_, rfl⟩
    have hae : a = ((8 * i + j : Nat) : Int) := by omega
    rw [← hi, ← hj, hae]
    obtain ⟨bl, bm, rows, evv, nev, hm, h2, h3, h4, rfl⟩ := h
    obtain ⟨vv, hr⟩ := row_at h2 (i := i) (by omega)
    refine (Load_calls hm.toMemX hg i j (by omega) hr).mono fun e w' ⟨v, he, hv, t⟩ => ⟨v, he, ?_, t⟩
    rw [hv]
    unfold loadV
    show (match (lnAt L i).shows (lnAt L i).pend.length with | some ws => _ | none => _) = _
    cases (lnAt L i).shows (lnAt L i).pend.length <;> rfl
  · rw [if_pos hin]
    refine calls_body cx_ok (args := [.pointer (some ⟨p, 0, none⟩), .int .i64 a]) Tryz.func59 rfl 41 rfl rfl [.tmp 4, .tmp 5] rfl ?_
    refine ⟨fun _ => ⟨rfl, Tr.refl _ _⟩, fun h0 => ?_⟩
    refine ⟨_, by decide, quo8 (by omega) ha.2, ?_⟩
    refine call (h.has _) ?_
    rintro _ _ ⟨hx, rfl⟩
    rw [decide_eq_false (fun hh => by have := hh.2; omega)] at hx
    subst hx
    exact ⟨rfl, Tr.refl _ _⟩

end

end Go.Proofs.YthepaakejpbppaaGreatDoor

/- The specification's memory: changes; put, Set, Flush. -/
namespace Go.Proofs.YthepaakejpbppaaGreatDoor
open Go.E

/-- Cells of a row of the call's own are written. -/
theorem Row.storeN {w : World} {e size n : Nat} {v : Value} {vs xs : List Value} (h : Row w e size v n xs) {g o m : Nat} (hg : v.ownBlock = some g) (hl : vs.length = m) (ho : o + m ≤ xs.length) (hu : vs.all E.one = true) {K : World → Prop}
    (hK : ∀ w', Tr [g] w w' → Row w' e size v n (splice xs o m vs) → K w') : StN w g o m vs K := by
  obtain ⟨h1, ⟨rfl, _⟩ | ⟨g', cap, cur, rfl, hb, h4, h5, h6, h7, h8⟩⟩ := h
  · simp [Value.ownBlock] at hg
  · simp only [Value.ownBlock, Option.some.injEq] at hg
    subst hg
    have hlen : xs.length ≤ cur.toList.length := by rw [← h8, List.length_take]; omega
    have hcur : cur.toList = xs ++ cur.toList.drop (n * size) := by rw [← h8]; exact (List.take_append_drop _ _).symm
    have hsp : splice cur.toList o m vs = splice xs o m vs ++ cur.toList.drop (n * size) := by
      unfold splice
      conv => lhs; rw [hcur]
      rw [List.take_append_of_le_length (by omega), List.drop_append_of_le_length (by omega)]
      simp
    have hsl : (splice xs o m vs).length = xs.length := splice_len ho hl
    refine ⟨cur.toList, e, by unfold Blk; simpa using h4, hl, by omega, hu, fun w' u' => hK w' u'.tr ⟨by rw [hsl]; exact h1, .inr ⟨g', cap, (splice cur.toList o m vs).toArray, rfl, hb, u'.get, h5, h6, ?_, ?_⟩⟩⟩
    · rw [List.size_toArray, splice_len (by omega) hl]
      simpa using h7
    · show (splice cur.toList o m vs).take (n * size) = _
      rw [hsp, List.take_append_of_le_length (by rw [hsl, h1]; exact Nat.le_refl _), List.take_of_length_le (by rw [hsl, h1]; exact Nat.le_refl _)]

namespace RX
variable {w : World} {p : Nat} {rows : List (Ln × Value)} {lv evv : Value} {span nev : Nat}

theorem ro_row {i : Nat} {r : Ln × Value} (hr : rows[i]? = some r) : (ro p rows lv evv)[3 + i]? = some r.2.ownBlock := by
  show (some p :: lv.ownBlock :: evv.ownBlock :: rows.map fun r => r.2.ownBlock)[3 + i]? = _
  rw [show 3 + i = i + 1 + 1 + 1 by omega]
  simp [hr]
theorem ro_at0 : (ro p rows lv evv)[0]? = some (some p) := rfl
theorem ro_at1 : (ro p rows lv evv)[1]? = some lv.ownBlock := rfl
theorem ro_at2 : (ro p rows lv evv)[2]? = some evv.ownBlock := rfl
theorem ro_set {i : Nat} {r' : Ln × Value} : (ro p rows lv evv).set (3 + i) r'.2.ownBlock = ro p (rows.set i r') lv evv := by
  show (some p :: lv.ownBlock :: evv.ownBlock :: rows.map fun r => r.2.ownBlock).set (3 + i) _ = some p :: lv.ownBlock :: evv.ownBlock :: (rows.set i r').map fun r => r.2.ownBlock
  rw [show 3 + i = i + 1 + 1 + 1 by omega]
  simp [List.map_set]

theorem l_ne (h : RX w p rows lv evv span nev) {b : Nat} (hb : lv.ownBlock = some b) : b ≠ p ∧ evv.ownBlock ≠ some b ∧ ∀ (i : Nat) (r : Ln × Value), rows[i]? = some r → r.2.ownBlock ≠ some b := by
  have h1 : (ro p rows lv evv)[1]? = some (some b) := by rw [ro_at1, hb]
  refine ⟨fun e => ?_, fun e => ?_, fun i r hr e => ?_⟩
  · subst e; exact absurd (fn_ne h.nodup h1 ro_at0) (by decide)
  · exact absurd (fn_ne h.nodup h1 (by rw [ro_at2, e])) (by decide)
  · have := fn_ne h.nodup h1 (by rw [ro_row hr, e]); omega
theorem e_ne (h : RX w p rows lv evv span nev) {b : Nat} (hb : evv.ownBlock = some b) : b ≠ p ∧ lv.ownBlock ≠ some b ∧ ∀ (i : Nat) (r : Ln × Value), rows[i]? = some r → r.2.ownBlock ≠ some b := by
  have h1 : (ro p rows lv evv)[2]? = some (some b) := by rw [ro_at2, hb]
  refine ⟨fun e => ?_, fun e => (h.l_ne e).2.1 hb, fun i r hr e => ?_⟩
  · subst e; exact absurd (fn_ne h.nodup h1 ro_at0) (by decide)
  · have := fn_ne h.nodup h1 (by rw [ro_row hr, e]); omega
theorem r_ne (h : RX w p rows lv evv span nev) {i : Nat} {r : Ln × Value} (hr : rows[i]? = some r) {b : Nat} (hb : r.2.ownBlock = some b) : b ≠ p ∧ lv.ownBlock ≠ some b ∧ evv.ownBlock ≠ some b ∧ ∀ (j : Nat) (s : Ln × Value), rows[j]? = some s → s.2.ownBlock = some b → i = j := by
  have h1 : (ro p rows lv evv)[3 + i]? = some (some b) := by rw [ro_row hr, hb]
  refine ⟨fun e => ?_, fun e => (h.l_ne e).2.2 i r hr hb, fun e => (h.e_ne e).2.2 i r hr hb, fun j s hs e => ?_⟩
  · subst e; have := fn_ne h.nodup h1 ro_at0; omega
  · have := fn_ne h.nodup h1 (by rw [ro_row hs, e]); omega

/-- One line is another. -/
theorem set (h : RX w p rows lv evv span nev) {i : Nat} {r r' : Ln × Value} (hr : rows[i]? = some r) {w' : World} {S : List Nat} (t : Tr S w w') (hS : ∀ b ∈ S, lv.ownBlock = some b ∨ r.2.ownBlock = some b)
    (hl : Row w' 142 11 lv rows.length ((rows.set i r').flatMap lcells)) (hp : Row w' 123 2 r'.2 r'.1.pend.length (pcells r'.1.pend)) (hok : r'.1.Ok) (hown : ∀ b, r'.2.ownBlock = some b → r.2.ownBlock = some b ∨ w.heap.size ≤ b) :
    RX w' p (rows.set i r') lv evv span nev ∧ ∀ b ∈ rfoot p (rows.set i r') lv evv, b ∈ rfoot p rows lv evv ∨ w.heap.size ≤ b := by
  have hi : i < rows.length := (List.getElem?_eq_some_iff.1 hr).1
  obtain ⟨hf1, hf2⟩ := fn_set h.nodup h.foot_lt (ro_row hr) hown
  rw [ro_set] at hf1 hf2
  obtain ⟨xs, hxs⟩ := h.evs
  have hnp : p ∉ S := fun hm => by
    rcases hS p hm with e | e
    · exact (h.l_ne e).1 rfl
    · exact (h.r_ne hr e).1 rfl
  refine ⟨⟨h.head.tr t hnp, by rw [List.length_set]; exact hl, fun s hs => ?_, ⟨xs, Row.tr hxs t fun b hb hm => ?_⟩, fun s hs => ?_, hf1, fun b hb => ?_, by rw [List.length_set]; exact h.small⟩, hf2⟩
  · obtain ⟨j, hj⟩ := List.mem_iff_getElem?.1 hs
    rw [List.getElem?_set] at hj
    by_cases hij : i = j
    · subst hij
      rw [if_pos rfl, if_pos hi] at hj
      obtain rfl := Option.some.inj hj
      exact hp
    · rw [if_neg hij] at hj
      refine Row.tr (h.pend s (List.mem_of_getElem? hj)) t fun b hb hm => ?_
      have hsn := h.r_ne hj hb
      rcases hS b hm with e | e
      · exact hsn.2.1 e
      · exact hij (hsn.2.2.2 i r hr e).symm
  · have he := h.e_ne hb
    rcases hS b hm with e | e
    · exact he.2.1 e
    · exact he.2.2 i r hr e
  · rcases List.mem_or_eq_of_mem_set hs with hs | rfl
    · exact h.ok s hs
    · exact hok
  · rcases hf2 b hb with hb | hb
    · exact h.ge b hb
    · have := h.ge p in_p
      have := h.foot_lt p in_p
      omega

/-- Other events. -/
theorem ev (h : RX w p rows lv evv span nev) {w' : World} {S : List Nat} {evv' : Value} {n : Nat} {xs : List Value} (t : Tr S w w') (hS : ∀ b ∈ S, b = p ∨ evv.ownBlock = some b)
    (hh : Blk w' p [lv, .int .i64 (span : Nat), evv'] 138) (he : Row w' 127 12 evv' n xs) (hown : ∀ b, evv'.ownBlock = some b → evv.ownBlock = some b ∨ w.heap.size ≤ b) :
    RX w' p rows lv evv' span n ∧ ∀ b ∈ rfoot p rows lv evv', b ∈ rfoot p rows lv evv ∨ w.heap.size ≤ b := by
  obtain ⟨hf1, hf2⟩ := fn_set h.nodup h.foot_lt ro_at2 hown
  have e : (ro p rows lv evv).set 2 evv'.ownBlock = ro p rows lv evv' := rfl
  rw [e] at hf1 hf2
  refine ⟨⟨hh, Row.tr h.lines t fun b hb hm => ?_, fun s hs => ?_, ⟨xs, he⟩, h.ok, hf1, fun b hb => ?_, h.small⟩, hf2⟩
  · rcases hS b hm with e | e
    · exact (h.l_ne hb).1 e
    · exact (h.l_ne hb).2.1 e
  · obtain ⟨j, hj⟩ := List.mem_iff_getElem?.1 hs
    refine Row.tr (h.pend s hs) t fun b hb hm => ?_
    have hsn := h.r_ne hj hb
    rcases hS b hm with e | e
    · exact hsn.1 e
    · exact hsn.2.2.1 e
  · rcases hf2 b hb with hb | hb
    · exact h.ge b hb
    · have := h.ge p in_p
      have := h.foot_lt p in_p
      omega

/-- append of an event that lies in a block. -/
theorem ev_append (h : RX w p rows lv evv span nev) (hnev : nev < 549755813888) {ty b : Nat} {cs : List Value} (hb : Blk w b cs 127) (hl : cs.length = 12) (h1 : cs.all E.one = true) {K : Value → World → Prop}
    (hK : ∀ evv' w' xs, Row w' 127 12 evv' (nev + 1) xs → Tr evv.ownBlock.toList w w' → (∀ b, evv'.ownBlock = some b → evv.ownBlock = some b ∨ w.heap.size ≤ b) → K evv' w') :
    RunV cx.P (Builtin.append_ #[118, 118] ty #[evv, .slice (some ⟨b, 0, none⟩) 1 1]) w K := by
  obtain ⟨xs, hxs⟩ := h.evs
  refine append_own cx_ok (x := ⟨1, 24, false, [.slice none 0 0], .slice 127⟩) rfl rfl rfl (by decide) hxs b 0 1 1 cs hl hb.all h1 (by omega) (by decide) ?_
  intro v' w' hr t hat _
  refine hK v' w' _ hr t fun c hc => ?_
  rcases hat with e | e
  · exact .inl (e ▸ hc)
  · rw [e] at hc; exact .inr (by have := Option.some.inj hc; omega)

end RX

/-- The specification's memory with lines L. -/
def RMem (w : World) (p : Nat) (L : List Ln) (span N : Nat) (F : List Nat) : Prop := ∃ rows lv evv nev, RX w p rows lv evv span nev ∧ rows.map (·.1) = L ∧ nev ≤ N ∧ (∀ l ∈ L, l.pend.length ≤ N) ∧ F = rfoot p rows lv evv

section
variable {w : World} {p : Nat} {L : List Ln} {span N : Nat} {F : List Nat}

theorem RMem.tr {S : List Nat} {w' : World} (h : RMem w p L span N F) (t : Tr S w w') (hS : ∀ b ∈ S, b ∉ F) : RMem w' p L span N F := by
  obtain ⟨rows, lv, evv, nev, h1, h2, h3, h4, rfl⟩ := h
  exact ⟨rows, lv, evv, nev, h1.tr t hS, h2, h3, h4, rfl⟩
theorem RMem.ext {w' : World} (h : RMem w p L span N F) (t : Tr [] w w') : RMem w' p L span N F := h.tr t (by simp)
theorem RMem.mono {N' : Nat} (h : RMem w p L span N F) (hn : N ≤ N') : RMem w p L span N' F := by
  obtain ⟨rows, lv, evv, nev, h1, h2, h3, h4, rfl⟩ := h
  exact ⟨rows, lv, evv, nev, h1, h2, by omega, fun l hl => by have := h4 l hl; omega, rfl⟩
theorem RMem.lt (h : RMem w p L span N F) : ∀ b ∈ F, b < w.heap.size := by
  obtain ⟨rows, lv, evv, nev, h1, _, _, _, rfl⟩ := h
  exact h1.foot_lt
theorem RMem.ge (h : RMem w p L span N F) : ∀ b ∈ F, 4 ≤ b := by
  obtain ⟨rows, lv, evv, nev, h1, _, _, _, rfl⟩ := h
  exact h1.ge
theorem RMem.ok (h : RMem w p L span N F) : LOk L := by
  obtain ⟨rows, lv, evv, nev, h1, rfl, _⟩ := h
  intro l hl
  obtain ⟨r, hr, rfl⟩ := List.mem_map.1 hl
  exact h1.ok r hr
theorem RMem.small (h : RMem w p L span N F) : L.length ≤ 4096 := by
  obtain ⟨rows, lv, evv, nev, h1, rfl, _⟩ := h
  rw [List.length_map]; exact h1.small
theorem RMem.p_in (h : RMem w p L span N F) : p ∈ F := by
  obtain ⟨rows, lv, evv, nev, h1, _, _, _, rfl⟩ := h
  exact RX.in_p
theorem RMem.same {w' : World} (h : RMem w p L span N F) (t : Tr [] w w') : ∃ F', RMem w' p L span (N + 1) F' ∧ Step w w' F F' :=
  ⟨F, (h.ext t).mono (by omega), t.of_ext, fun b hb => .inl hb⟩
theorem RMem.gl {w' : World} {F' : List Nat} (h : RMem w p L span N F) (hg : Gl w) (hs : Step w w' F F') : Gl w' := hg.tr hs.tr fun b hb => h.ge b hb

theorem RMem.has (h : RMem w p L span N F) (n : Int) : Calls cx.P 128 #[.pointer (some ⟨p, 0, none⟩), .int .i64 n] w (Ret fun v w' => v = .bool (decide (inB L n)) ∧ w = w') := by
  obtain ⟨rows, lv, evv, nev, h1, h2, h3, h4, rfl⟩ := h
  refine (has04_calls h1 n).mono fun e w' ⟨v, he, hv, hw⟩ => ⟨v, he, ?_, hw⟩
  rw [hv]
  congr 1
  exact decide_eq_decide.2 (by unfold inB; rw [← h2, List.length_map])

theorem RMem.state (h : RMem w p L span N F) (n : Int) : Calls cx.P 87 #[.pointer (some ⟨p, 0, none⟩), .int .i64 n] w (Ret fun v w' => v = .int .i64 (if inB L n then ((chk (lnAt L n.toNat).ws (lnAt L n.toNat).code).state : Int) else -1) ∧ Tr [] w w') := by
  by_cases hi : inB L n
  · rw [if_pos hi]
    obtain ⟨h0, h1⟩ := hi
    obtain ⟨rows, lv, evv, nev, hm, h2, h3, h4, rfl⟩ := h
    obtain ⟨v, hr⟩ := row_at h2 (i := n.toNat) (by omega)
    have := State04_calls hm n.toNat hr
    rw [show ((n.toNat : Nat) : Int) = n by omega] at this
    exact this
  · rw [if_neg hi]
    refine calls_body cx_ok (args := [.pointer (some ⟨p, 0, none⟩), .int .i64 n]) Tryz.func87 rfl 34 rfl rfl [.tmp 4] rfl ?_
    refine call (h.has n) ?_
    rintro _ _ ⟨hv, rfl⟩
    rw [decide_eq_false hi] at hv
    subst hv
    exact ⟨rfl, Tr.refl _ _⟩

/-- Behind a change of one line: an event is appended, and the list of events is stored. -/
theorem RMem.ev_of {nev : Nat} {rows : List (Ln × Value)} {lv evv : Value} (hm : RX w p rows lv evv span nev) (hrows : rows.map (·.1) = L) (hn : nev ≤ N) (hp : ∀ l ∈ L, l.pend.length ≤ N + 1) (hN : N < 549755813888) {w0 : World} {F0 : List Nat} (hs : Step w0 w F0 (rfoot p rows lv evv))
    {ty b : Nat} {cs : List Value} (hb : Blk w b cs 127) (hl : cs.length = 12) (h1 : cs.all E.one = true) {K : Value → World → Prop}
    (hK : ∀ evv' w', Tr evv.ownBlock.toList w w' → Blk w' p [lv, .int .i64 (span : Nat), evv] 138 → E.one evv' = true → (∀ w'' : World, Upd w' p (.cells ([lv, .int .i64 (span : Nat), evv].set 2 evv').toArray 138) w'' → ∃ F', RMem w'' p L span (N + 1) F' ∧ Step w0 w'' F0 F') → K evv' w') :
    RunV cx.P (Builtin.append_ #[118, 118] ty #[evv, .slice (some ⟨b, 0, none⟩) 1 1]) w K := by
  refine hm.ev_append (by omega) hb hl h1 fun evv' w' xs hr t hown => ?_
  have hpn : p ∉ evv.ownBlock.toList := fun hb => (hm.e_ne (by simpa using hb)).1 rfl
  have hh := hm.head.tr t hpn
  refine hK evv' w' t hh (Row.one hr) fun w'' u => ?_
  have t2 : Tr (p :: evv.ownBlock.toList) w w'' := t.trans u.tr (fun b hb => by simp at hb ⊢; exact .inr hb) (fun b hb _ => by simp at hb; simp [hb])
  have hev : ∀ b, evv'.ownBlock = some b → b ≠ p := fun b hb e => by
    rcases hown b hb with h | h
    · exact (hm.e_ne h).1 e
    · have := hm.foot_lt p RX.in_p; omega
  obtain ⟨m3, f3⟩ := hm.ev t2 (fun b hb => by
    rcases List.mem_cons.1 hb with h | h
    · exact .inl h
    · exact .inr (by simpa using h)) u.blk (Row.tr hr u.tr fun b hb hmm => hev b hb (by simpa using hmm)) hown
  refine ⟨rfoot p rows lv evv', ⟨rows, lv, evv', nev + 1, m3, hrows, by omega, hp, rfl⟩, hs.trans ⟨t2.mono fun b hb _ => ?_, f3⟩⟩
  rcases List.mem_cons.1 hb with rfl | h
  · exact RX.in_p
  · exact RX.in_e (by simpa using h)

end

end Go.Proofs.YthepaakejpbppaaGreatDoor

/- The specification's memory: put, Store, Publish, Set, Flush. -/
namespace Go.Proofs.YthepaakejpbppaaGreatDoor
open Go.E

theorem pcells_snoc (ps : List (Nat × Nat)) (j v : Nat) : pcells (ps ++ [(j, v)]) = pcells ps ++ [.int .i64 (j : Nat), .int .i64 (v : Nat)] := by simp [pcells]

section
variable {w : World} {p : Nat} {L : List Ln} {span N : Nat} {F : List Nat}

set_option maxHeartbeats 1000000 in
theorem put04_gen (h : RMem w p L span N F) (hN : N < 549755813888) (a v kind : Int) (ha : inI64 a) :
    Calls cx.P 130 #[.pointer (some ⟨p, 0, none⟩), .int .i64 a, .int .i64 v, .int .i64 kind] w
      (Ret fun x w' => x = .int .i64 (putL L a v).1 ∧ ∃ F', RMem w' p (putL L a v).2 span (N + 1) F' ∧ Step w w' F F') := by
  have hsml := h.small
  refine calls_body cx_ok (args := [.pointer (some ⟨p, 0, none⟩), .int .i64 a, .int .i64 v, .int .i64 kind]) Tryz.func130 rfl 71 rfl rfl [.tmp 8] rfl ?_
  by_cases hin : 0 ≤ a ∧ a < 8 * L.length
  · obtain ⟨i, hi⟩ : ∃ i, i = a.toNat / 8 := ⟨_, rfl⟩
    obtain ⟨j, hj⟩ : ∃ j, j = a.toNat % 8 := ⟨_, rfl⟩
    have hae : a = ((8 * i + j : Nat) : Int) := by omega
    have hiL : i < L.length := by omega
    have hquo : IntKind.i64.wrap (a.tdiv 8) = (i : Int) := by rw [quo8 hin.1 ha.2, ← hi]
    have hinB : inB L i := ⟨by omega, by omega⟩
    refine ⟨fun h0 => absurd h0 (by omega), fun _ => ⟨_, by decide, hquo, ?_⟩⟩
    refine call (h.has i) ?_
    rintro _ _ ⟨hx, rfl⟩
    rw [decide_eq_true hinB] at hx
    subst hx
    refine call (word04_calls v w) ?_
    rintro _ _ ⟨rfl, rfl⟩
    cases hw : wordI v with
    | false =>
      have hp : putL L a v = (1, L) := by unfold putL; rw [if_neg (fun h => h hin), if_pos hw]
      rw [hp]
      exact ⟨rfl, h.same (Tr.refl _ _)⟩
    | true =>
    obtain ⟨hv1, hv2⟩ := toNat_word hw
    refine ⟨_, by decide, hquo, ?_⟩
    refine call (h.state i) ?_
    rintro _ w1 ⟨rfl, t1⟩
    rw [if_pos hinB]
    have hst : ((i : Int).toNat) = i := by omega
    rw [hst]
    refine ⟨fun h2 => ?_, fun h2 => ?_⟩
    · have hrot : rotten (lnAt L i) := by unfold rotten; omega
      have hp : putL L a v = (9, L) := by unfold putL; rw [if_neg (fun h => h hin), if_neg (by rw [hw]; decide), ← hi, if_pos hrot]
      rw [hp]
      exact ⟨rfl, h.same t1⟩
    have hrot : ¬ rotten (lnAt L i) := by unfold rotten; omega
    have hp : putL L a v = (0, L.set i ((lnAt L i).put j v.toNat)) := by unfold putL; rw [if_neg (fun h => h hin), if_neg (by rw [hw]; decide), ← hi, ← hj, if_neg hrot]
    rw [hp]
    obtain ⟨rows, lv, evv, nev, hm0, hrows, hn, hpend, rfl⟩ := h
    have hm := hm0.ext t1
    obtain ⟨vv, hr⟩ := row_at hrows hiL
    obtain ⟨l, hld⟩ : ∃ l, l = lnAt L i := ⟨_, rfl⟩
    rw [← hld] at hr ⊢
    have hir : i < rows.length := (List.getElem?_eq_some_iff.1 hr).1
    have hok : l.Ok := hm.ok _ (List.mem_of_getElem? hr)
    have hpl : l.pend.length ≤ N := by rw [hld]; exact hpend _ (lnAt_mem hiL)
    obtain ⟨g, cap, hlv, hc⟩ := hm.list hir
    have hcr := rcell hm.lens hc hr
    have hrow : Row w1 123 2 vv l.pend.length (pcells l.pend) := hm.pend _ (List.mem_of_getElem? hr)
    have hlvo : lv.ownBlock = some g := by rw [hlv]; rfl
    have hlines := hm.lines
    subst hlv
    have z1 := t1.size
    have hgl := hm.foot_lt g (RX.in_l rfl)
    -- the pending stores, anew
    refine ⟨[], rfl, fun b2 w2 n2 => ?_⟩
    have e2 := n2.num; have z2 := n2.size
    refine ⟨_, (hm.head.ext n2.tr).cell rfl, _, by decide, hquo, i, rfl, hir, _, (hcr.ext n2.tr) 9 _ (lcells_pend hok), ?_⟩
    refine append_gen (x := ⟨1, 24, false, [.slice none 0 0], .slice 123⟩) rfl rfl rfl (by decide) (row_empty n2) ((Row.sli hrow).ext n2.tr) (pcells_len _) (pcells_one _) (by omega) (by decide) ?_
    intro v3 w3 hr3 t3 hat3
    have z3 := t3.size
    have hv3 : ∀ b, v3.ownBlock = some b → w1.heap.size ≤ b := fun b hb => by
      rcases hat3 with e | e
      · rw [e] at hb; simp [Value.ownBlock] at hb; omega
      · rw [e] at hb; have := Option.some.inj hb; omega
    have t13 : Tr [] w1 w3 := n2.tr.trans t3 (fun _ h => h) (fun b hb hlt => by simp [Value.ownBlock] at hb; omega)
    rw [Nat.zero_add, List.nil_append] at hr3
    refine ⟨(j : Int), by decide, by rw [IntWalk.rem_in _ _ (by omega)]; omega, _, rfl, _, rfl, fun b4 w4 n4 => ?_⟩
    have e4 := n4.num; have z4 := n4.size
    have B4 : Blk w4 b4 [.int .i64 (j : Int), .int .i64 v] 123 := n4.blk
    rw [← hv1] at B4
    refine append_own cx_ok (x := ⟨1, 24, false, [.slice none 0 0], .slice 123⟩) rfl rfl rfl (by decide) (Row.tr hr3 n4.tr (by simp)) b4 0 1 1 [.int .i64 (j : Int), .int .i64 (v.toNat : Nat)] rfl B4.all rfl (by omega) (by decide) ?_
    intro v5 w5 hr5 t5 hat5 _
    have z5 := t5.size
    have hv5 : ∀ b, v5.ownBlock = some b → w1.heap.size ≤ b := fun b hb => by
      rcases hat5 with e | e
      · exact hv3 b (e ▸ hb)
      · rw [e] at hb; have := Option.some.inj hb; omega
    have t15 : Tr [] w1 w5 := (t13.ext n4.tr).trans t5 (fun _ h => h) (fun b hb hlt => by have := hv3 b (by simpa using hb); omega)
    rw [← pcells_snoc] at hr5
    have hm5 := hm.ext t15
    -- the store into the line
    obtain ⟨r', hr'⟩ : ∃ r' : Ln × Value, r' = (l.put j v.toNat, v5) := ⟨_, rfl⟩
    refine ⟨_, hm5.head.cell rfl, _, by decide, hquo, i, rfl, hir, ?_⟩
    refine Row.store1 hm5.lines rfl (by rw [fm_len hm5.lens]; show 0 + i * 11 + 9 < _; omega) (Row.one hr5) fun w6 t6 hr6 => ?_
    rw [show 0 + i * 11 + 9 = i * 11 + 9 by omega, line_set (j := 9) (r' := r') hm5.lens hr (by omega) (lcells_tail (r' := r') (r := (l, vv)) (j := 1) (by rw [hr']; rfl) hok.ws.len v5 (by rw [hr']; rfl) (by omega))] at hr6
    have t16 : Tr [g] w1 w6 := t15.of_ext.trans t6 (fun _ h => h) (fun _ h _ => h)
    obtain ⟨m6, f6⟩ := hm.set hr (r' := r') t16 (fun b hb => .inl (by simp at hb; rw [hb]; rfl)) hr6 (by
      rw [hr']
      have hpl1 : (l.put j v.toNat).pend.length = l.pend.length + 1 := by simp [Ln.put]
      show Row w6 _ 2 v5 (l.put j v.toNat).pend.length (pcells (l.pend ++ [(j, v.toNat)]))
      rw [hpl1]
      exact Row.tr hr5 t6 (fun b hb hmm => by have := hv5 b hb; simp at hmm; omega)) (by rw [hr']; exact hok.put (by omega) hv2) (fun b hb => .inr (by rw [hr'] at hb; exact hv5 b hb))
    have hs6 : Step w w6 (rfoot p rows (.slice (some ⟨g, 0, none⟩) rows.length cap) evv) (rfoot p (rows.set i r') (.slice (some ⟨g, 0, none⟩) rows.length cap) evv) := Step.of_ext t1 ⟨t16.mono fun b hb _ => by simp at hb; rw [hb]; exact RX.in_l rfl, f6⟩
    obtain ⟨X, hX⟩ : ∃ X : List Nat, X = evv.ownBlock.toList := ⟨_, rfl⟩
    have hpX : p ∉ X := fun hb => (m6.e_ne (by rw [hX] at hb; simpa using hb)).1 rfl
    refine draw_rule cx_ok X (Plan.takes [0, 1, 2, 3, 4, 5, 6, 7, 8, 9, 10, 11, 12] (.one true 13 (.one true 14 (.one true 15 (.one true 16 (.one false 17 .done)))))) (by kernel_rfl) ?_
    intro w7 d
    refine ⟨_, fun w' t => t.cell (m6.head.cell rfl) hpX, _, fun w' t => t.cell (m6.head.cell rfl) hpX, _, rfl, ?_⟩
    refine ⟨⟨_, rfl, fun b8 w8 n8 => ⟨(d.tr.ext n8.tr).of_ext, ?_, trivial⟩⟩, trivial⟩
    have t68 := d.tr.ext n8.tr
    have hs8 := hs6.ext t68
    refine RMem.ev_of (m6.ext t68) (L := L.set i (l.put j v.toNat)) (N := N) (by rw [List.map_set, hrows, hr']) hn (fun l' hl' => ?_) hN hs8 n8.blk rfl rfl fun evv' w9 t9 hh hone hK => ?_
    · rcases List.mem_or_eq_of_mem_set hl' with hl' | rfl
      · have := hpend l' hl'; omega
      · simp only [Ln.put, List.length_append, List.length_cons, List.length_nil]; omega
    have hS : Tr X w6 w9 := by rw [hX]; exact t68.of_ext.trans t9 (fun _ h => h) (fun _ h _ => h)
    refine ⟨hS, ⟨hS, ⟨hS, ⟨⟨_, _, hh, by show 2 < 3; decide, hone, fun w10 u10 => ⟨rfl, hK w10 u10⟩⟩, trivial⟩⟩, trivial⟩, trivial⟩
  · have hp : putL L a v = (40, L) := by unfold putL; rw [if_pos hin]
    rw [hp]
    refine ⟨fun _ => ⟨rfl, h.same (Tr.refl _ _)⟩, fun h0 => ⟨_, by decide, quo8 (by omega) ha.2, ?_⟩⟩
    refine call (h.has _) ?_
    rintro _ _ ⟨hx, rfl⟩
    rw [decide_eq_false (fun hh => by have := hh.2; omega)] at hx
    subst hx
    exact ⟨rfl, h.same (Tr.refl _ _)⟩

theorem Store04_gen (h : RMem w p L span N F) (hN : N < 549755813888) (a v : Int) (ha : inI64 a) :
    Calls cx.P 88 #[.pointer (some ⟨p, 0, none⟩), .int .i64 a, .int .i64 v] w
      (Ret fun x w' => x = .int .i64 (putL L a v).1 ∧ ∃ F', RMem w' p (putL L a v).2 span (N + 1) F' ∧ Step w w' F F') := by
  refine calls_body cx_ok (args := [.pointer (some ⟨p, 0, none⟩), .int .i64 a, .int .i64 v]) Tryz.func88 rfl 11 rfl rfl [.tmp 6] rfl ?_
  refine call (put04_gen h hN a v 1 ha) ?_
  rintro _ w1 ⟨rfl, h1⟩
  exact ⟨rfl, h1⟩

theorem Publish04_gen (h : RMem w p L span N F) (hN : N < 549755813888) (a v : Int) (ha : inI64 a) :
    Calls cx.P 97 #[.pointer (some ⟨p, 0, none⟩), .int .i64 a, .int .i64 v] w
      (Ret fun x w' => x = .int .i64 (putL L a v).1 ∧ ∃ F', RMem w' p (putL L a v).2 span (N + 1) F' ∧ Step w w' F F') := by
  refine calls_body cx_ok (args := [.pointer (some ⟨p, 0, none⟩), .int .i64 a, .int .i64 v]) Tryz.func97 rfl 11 rfl rfl [.tmp 6] rfl ?_
  refine call (put04_gen h hN a v 2 ha) ?_
  rintro _ w1 ⟨rfl, h1⟩
  exact ⟨rfl, h1⟩

theorem Set04_gen (h : RMem w p L span N F) (n : Int) :
    Calls cx.P 98 #[.pointer (some ⟨p, 0, none⟩), .int .i64 n] w (Ret fun _ w' => RMem w' p L n.toNat N F ∧ Step w w' F F) := by
  refine calls_body cx_ok (args := [.pointer (some ⟨p, 0, none⟩), .int .i64 n]) Tryz.func98 rfl 9 rfl rfl [] rfl ?_
  obtain ⟨rows, lv, evv, nev, hm, h2, h3, h4, rfl⟩ := h
  obtain ⟨xs, hxs⟩ := hm.evs
  refine ⟨_, _, max_run _ n 0 _ _ _, ?_⟩
  refine ⟨_, _, hm.head, by show 1 < 3; decide, rfl, fun w1 u1 => ?_⟩
  have hn : (if (0 : Int) > n then (0 : Int) else n) = ((n.toNat : Nat) : Int) := by split <;> omega
  have B1 : Blk w1 p [lv, .int .i64 (n.toNat : Nat), evv] 138 := by
    have := u1.blk
    rw [hn] at this
    exact this
  refine ⟨⟨rows, lv, evv, nev, ⟨B1, Row.tr hm.lines u1.tr fun b hb hmm => ?_, fun r hr => Row.tr (hm.pend r hr) u1.tr fun b hb hmm => ?_, ⟨xs, Row.tr hxs u1.tr fun b hb hmm => ?_⟩, hm.ok, hm.nodup, hm.ge, hm.small⟩, h2, h3, h4, rfl⟩, u1.tr.mono (fun b hb _ => by simp at hb; rw [hb]; exact RX.in_p), fun b hb => .inl hb⟩
  · simp at hmm
    exact (hm.l_ne hb).1 hmm
  · obtain ⟨i, hi⟩ := List.mem_iff_getElem?.1 hr
    simp at hmm
    exact (hm.r_ne hi hb).1 hmm
  · simp at hmm
    exact (hm.e_ne hb).1 hmm

set_option maxHeartbeats 1000000 in
theorem Flush04_gen (h : RMem w p L span N F) (hN : N < 549755813888) (n : Int) :
    Calls cx.P 89 #[.pointer (some ⟨p, 0, none⟩), .int .i64 n] w
      (Ret fun x w' => x = .int .i64 (flushL L n).1 ∧ ∃ F', RMem w' p (flushL L n).2 span (N + 1) F' ∧ Step w w' F F') := by
  refine calls_body cx_ok (args := [.pointer (some ⟨p, 0, none⟩), .int .i64 n]) Tryz.func89 rfl 36 rfl rfl [.tmp 4] rfl ?_
  refine call (h.has n) ?_
  rintro _ _ ⟨rfl, rfl⟩
  unfold flushL
  by_cases hi : inB L n
  · rw [decide_eq_true hi, if_neg (fun h => h hi)]
    obtain ⟨i, hin⟩ : ∃ i, i = n.toNat := ⟨_, rfl⟩
    obtain ⟨h0, hlt⟩ := hi
    have hne : n = (i : Int) := by omega
    have hiL : i < L.length := by omega
    rw [← hin, hne]
    obtain ⟨rows, lv, evv, nev, hm, hrows, hn, hpend, rfl⟩ := h
    obtain ⟨vv, hr⟩ := row_at hrows hiL
    obtain ⟨l, hld⟩ : ∃ l, l = lnAt L i := ⟨_, rfl⟩
    rw [← hld] at hr ⊢
    have hir : i < rows.length := (List.getElem?_eq_some_iff.1 hr).1
    have hok : l.Ok := hm.ok _ (List.mem_of_getElem? hr)
    have hpl : l.pend.length ≤ N := by rw [hld]; exact hpend _ (lnAt_mem hiL)
    obtain ⟨g, cap, hlv, hc⟩ := hm.list hir
    have hcr := rcell hm.lens hc hr
    have hrow : Row w 123 2 vv l.pend.length (pcells l.pend) := hm.pend _ (List.mem_of_getElem? hr)
    obtain ⟨a, c, hvv⟩ := Row.slice hrow
    have hpc : w.cell? ⟨g, 0 + i * 11 + 9, none⟩ = some vv := hcr 9 _ (lcells_pend hok)
    rw [hvv] at hpc
    subst hlv
    refine draw_rule cx_ok [] (Plan.takes [0, 1, 2, 3, 4, 5, 6, 7, 8, 9, 10, 11, 12, 13] (.one true 14 (.one true 15 (.one false 16 .done)))) (by kernel_rfl) ?_
    intro w1 d
    refine ⟨_, fun w' t => t.cell (hm.head.cell rfl) (by simp), _, fun w' t => t.cell (hm.head.cell rfl) (by simp), i, rfl, hir, _, fun w' t => t.cell hpc (by simp), ?_⟩
    refine ⟨⟨i, rfl, hir, d.tr, ?_⟩, trivial⟩
    refine ⟨⟨d.tr, ?_⟩, trivial⟩
    have hm1 := hm.ext d.tr
    obtain ⟨r', hr'⟩ : ∃ r' : Ln × Value, r' = (l.flush, vv) := ⟨_, rfl⟩
    refine ⟨Row.store1 hm1.lines rfl (by rw [fm_len hm1.lens]; show 0 + i * 11 + 10 < _; omega) rfl fun w2 t2 hr2 => ?_, trivial⟩
    rw [show 0 + i * 11 + 10 = i * 11 + 10 by omega, line_set (j := 10) (r' := r') hm1.lens hr (by omega) (lcells_tail (r' := r') (r := (l, vv)) (j := 2) (by rw [hr']; rfl) hok.ws.len (.int .i64 (l.pend.length : Nat)) (by rw [hr']; rfl) (by omega))] at hr2
    have t02 : Tr [g] w w2 := d.tr.of_ext.trans t2 (fun _ h => h) (fun _ h _ => h)
    obtain ⟨m2, f2⟩ := hm.set hr (r' := r') t02 (fun b hb => .inl (by simp at hb; rw [hb]; rfl)) hr2 (by
      rw [hr']
      exact Row.tr hrow t02 (fun b hb hmm => (hm.r_ne hr hb).2.1 (by simp at hmm; rw [hmm]; rfl))) (by rw [hr']; exact hok.flush) (fun b hb => .inl (by rw [hr'] at hb; exact hb))
    have hs2 : Step w w2 (rfoot p rows (.slice (some ⟨g, 0, none⟩) rows.length cap) evv) (rfoot p (rows.set i r') (.slice (some ⟨g, 0, none⟩) rows.length cap) evv) := ⟨t02.mono fun b hb _ => by simp at hb; rw [hb]; exact RX.in_l rfl, f2⟩
    refine ⟨_, m2.head.cell rfl, _, rfl, _, rfl, fun b8 w8 n8 => ?_⟩
    refine RMem.ev_of (m2.ext n8.tr) (L := L.set i l.flush) (N := N) (by rw [List.map_set, hrows, hr']) hn (fun l' hl' => ?_) hN (hs2.ext n8.tr) n8.blk rfl rfl fun evv' w9 t9 hh hone hK => ?_
    · rcases List.mem_or_eq_of_mem_set hl' with hl' | rfl
      · have := hpend l' hl'; omega
      · show l.pend.length ≤ N + 1; omega
    exact ⟨_, _, hh, by show 2 < 3; decide, hone, fun w10 u10 => ⟨rfl, hK w10 u10⟩⟩
  · rw [decide_eq_false hi, if_pos hi]
    exact ⟨rfl, h.same (Tr.refl _ _)⟩

end

end Go.Proofs.YthepaakejpbppaaGreatDoor

/- The specification's memory: Encode, settle. -/
namespace Go.Proofs.YthepaakejpbppaaGreatDoor
open Go.E

theorem or512 : ∀ s, s < 512 → s ||| 512 = s + 512 ∧ (s + 512) &&& 511 = s ∧ s &&& 511 = s ∧ onesN (s + 512) = onesN s + 1 ∧ s ^^^ s = 0 := by decide +kernel

theorem enc_sum (ws : List Nat) : enc ws = (syn ws).1 + 512 * (((syn ws).2 + onesN (syn ws).1) % 2) := by
  have hs := (synTo_bd ws 8 (by omega)).1
  have := (or512 (syn ws).1 hs).1
  unfold enc
  split <;> omega

/-- Nothing is pending on a rotten line. -/
def Sd (L : List Ln) : Prop := ∀ l ∈ L, rotten l → l.pend = []

theorem Encode03_calls (ws : List Nat) (h8 : Line8 ws) (w : World) :
    Calls cx.P 96 #[.agg (wcells ws).toArray] w (Ret fun v w' => v = .int .i64 (enc ws : Nat) ∧ Tr [] w w') := by
  refine calls_body cx_ok (args := [.agg (wcells ws).toArray]) Tryz.func96 rfl 27 rfl rfl [.tmp 2] rfl ?_
  intro b w1 n1
  have hlen := wcells_len h8
  have B : Blk w1 b (wcells ws) 69 := n1.blk
  have hs : (syn ws).1 < 512 := (synTo_bd ws 8 (by omega)).1
  refine ⟨_, B.all, hlen, ?_⟩
  refine call (Valid_calls ws h8 0 (by omega) w1) ?_
  rintro _ w2 ⟨rfl, t2⟩
  refine ⟨_, (B.ext t2).all, hlen, ?_⟩
  refine call (Syndrome_calls ws h8 0 (by omega) w2) ?_
  rintro _ w3 ⟨rfl, t3⟩
  have e0 : (syn ws).1 ^^^ (0 &&& 511) = (syn ws).1 := by simp
  rw [e0]
  refine ⟨_, ((B.ext t2).ext t3).all, hlen, ?_⟩
  refine call (Syndrome_calls ws h8 (syn ws).1 (by omega) w3) ?_
  rintro _ w4 ⟨rfl, t4⟩
  obtain ⟨q, hq⟩ : ∃ q, q = ((syn ws).2 + onesN (syn ws).1) % 2 := ⟨_, rfl⟩
  rw [← hq]
  have he := enc_sum ws
  rw [← hq] at he
  refine ⟨((512 * q : Nat) : Int), by rw [w64 (by omega)]; omega, ((enc ws : Nat) : Int), by rw [w64 (by omega)]; omega, ?_⟩
  exact ⟨rfl, ((n1.tr.ext t2).ext t3).ext t4⟩

theorem sline_fill (ws : List Nat) (h8 : ws.length = 8) (c m : Nat) (ps : List (Nat × Nat)) (a : Option Addr) (n k : Nat) : fillL ([(0, 8), (8, 1), (9, 1), (10, 1)][·]?) [.int .i64 0, .int .i64 0, .int .i64 0, .int .i64 0, .int .i64 0, .int .i64 0, .int .i64 0, .int .i64 0, .int .i64 0, .slice none 0 0, .int .i64 0]
    [(0, .agg (wcells ws).toArray), (1, .int .i64 (c : Nat)), (2, .slice a n k), (3, .int .i64 (m : Nat))] = some (lcells (⟨ws, c, ps, m⟩, .slice a n k)) := by
  match ws, h8 with
  | [a, b, c', d, e, f, g, h], _ => rfl

section
variable {w : World} {p : Nat} {rows : List (Ln × Value)} {lv evv : Value} {span nev : Nat}

set_option maxHeartbeats 1000000 in
theorem settle04_calls (h : RX w p rows lv evv span nev) (i k : Nat) {r : Ln × Value} (hr : rows[i]? = some r) (hk : k ≤ r.1.pend.length) (hs : rotten r.1 → r.1.pend = []) (hsm : r.1.pend.length ≤ 549755813888) :
    Calls cx.P 93 #[.pointer (some ⟨p, 0, none⟩), .int .i64 i, .int .i64 k] w
      (Ret fun _ w' => ∃ v', RX w' p (rows.set i (r.1.settle k, v')) lv evv span nev ∧ Step w w' (rfoot p rows lv evv) (rfoot p (rows.set i (r.1.settle k, v')) lv evv)) := by
  have hi : i < rows.length := (List.getElem?_eq_some_iff.1 hr).1
  have hok := h.ok r (List.mem_of_getElem? hr)
  have hrow := h.pend r (List.mem_of_getElem? hr)
  refine calls_body cx_ok (args := [.pointer (some ⟨p, 0, none⟩), .int .i64 i, .int .i64 k]) Tryz.func93 rfl 70 rfl rfl [] rfl ?_
  refine ⟨fun h0 => ?_, fun h0 => ?_⟩
  · have hk0 : k = 0 := by omega
    have e : rows.set i (r.1.settle k, r.2) = rows := by
      have : (r.1.settle k, r.2) = rows[i] := by rw [(List.getElem?_eq_some_iff.1 hr).2]; unfold Ln.settle; rw [if_pos hk0]
      rw [this]
      exact List.set_getElem_self _
    exact ⟨r.2, by rw [e]; exact h, by rw [e]; exact Step.refl _ _⟩
  have hkn : k ≠ 0 := by omega
  obtain ⟨g, cap, hlv, hc⟩ := h.list hi
  subst hlv
  have hcr := rcell h.lens hc hr
  obtain ⟨q, hf⟩ : ∃ q, fix r.1.ws r.1.code = some q := by
    cases hf : fix r.1.ws r.1.code with
    | none =>
      have : r.1.pend = [] := hs (chk_fix_none.1 hf)
      rw [this] at hk; simp at hk; omega
    | some q => exact ⟨q, rfl⟩
  have hw8 : Line8 q.1 := (fix_line (vs := q.1) (c := q.2) hok.ws hok.code hf).1
  have hsh : r.1.shown k = lay q.1 (r.1.pend.take k) := by unfold Ln.shown Ln.shows; rw [hf]; rfl
  have hset : r.1.settle k = ⟨r.1.shown k, enc (r.1.shown k), r.1.pend.drop k, r.1.mark - k⟩ := by unfold Ln.settle; rw [if_neg hkn]
  have hlw := wcells_len hw8
  refine ⟨_, h.head.cell rfl, i, rfl, hi, lcells r, hcr, lcells_len hok, ?_⟩
  intro b5 w2 n2
  have e2 := n2.num; have z2 := n2.size
  rcases Row.elem hrow with ⟨_, hn0⟩ | ⟨gp, cp, hv, hncap, hcapm, hcs⟩
  · omega
  have hone : (lcells r).all E.one = true := by simp [lcells, wcells, E.one, hv]
  refine ⟨_, _, n2.blk, lcells_len hok, by show 0 + 11 ≤ 11; decide, hone, fun w3 u3 => ?_⟩
  have z3 := u3.size
  have B5 : Blk w3 b5 (lcells r) 142 := Upd.whole u3 rfl (lcells_len hok)
  have t03 : Tr [] w w3 := u3.ext n2.tr (by omega)
  refine ⟨_, rwords B5.all, wcells_len hok.ws, _, B5.cell (lcells_code hok), ?_⟩
  refine call (Fix03_calls r.1.ws hok.ws r.1.code hok.code w3) ?_
  rintro v w4 ⟨hv4, t4⟩
  rw [fixVal_eq, hf] at hv4
  subst hv4
  have z4 := t4.size
  intro b6 w5 n5
  have e5 := n5.num; have z5 := n5.size
  refine ⟨_, _, n5.blk, hlw, by show 0 + 8 ≤ 8; decide, wcells_one _, fun w6 u6 => ?_⟩
  have z6 := u6.size
  have B6 : Blk w6 b6 (wcells q.1) 69 := Upd.whole u6 rfl hlw
  have t36 : Tr [] w3 w6 := u6.ext (t4.ext n5.tr) (by omega)
  have t06 := t03.ext t36
  have C5 := B5.ext t36
  have hpc : ∀ W, Tr [b6] w6 W → W.cell? ⟨b5, 0 + 9, none⟩ = some r.2 := fun W t => (C5.tr t (by simp; omega)).cell (lcells_pend hok)
  rw [hv] at hpc
  have hl8 : ∀ j, Line8 (lay q.1 (r.1.pend.take j)) := fun j => lay_ok hw8 fun p hp => hok.pend p (List.mem_of_mem_take hp)
  have hgw : gp < w.heap.size := Row.lt hrow (by rw [hv]; rfl)
  refine loop_rule cx_ok (fun j W => j ≤ k ∧ Tr [b6] w6 W ∧ Blk W b6 (wcells (lay q.1 (r.1.pend.take j))) 69)
      (fun j : Nat => [(0, .pointer (some ⟨p, 0, none⟩)), (1, .int .i64 i), (2, .int .i64 k), (6, .pointer (some ⟨b5, 0, none⟩)), (7, .pointer (some ⟨b6, 0, none⟩)), (10, .int .i64 j)]) (fun j => k - j) 0 ⟨rfl, rfl, rfl, rfl, rfl, rfl, trivial⟩ ⟨by omega, Tr.refl _ _, by simpa [lay] using B6⟩ ?_
  rintro j W ⟨hj, tW, BW⟩
  have zW := tW.size
  have t0W : Tr [] w W := t06.trans tW (fun _ h => h) (fun b hb hlt => by simp at hb; omega)
  refine ⟨fun hlt => ?_, fun hge => ?_⟩
  · have hjk : j < k := by omega
    have hjp : j < r.1.pend.length := by omega
    have hq : r.1.pend[j]? = some r.1.pend[j] := List.getElem?_eq_getElem hjp
    obtain ⟨hc0, hc1⟩ := pcells_get hq
    have hqok := hok.pend _ (List.mem_of_getElem? hq)
    have k0 : W.cell? ⟨gp, 0 + j * 2 + 0, none⟩ = some (.int .i64 (r.1.pend[j].1 : Nat)) := by
      have := t0W.cell (hcs _ _ hc0) (by simp)
      rw [show 0 + j * 2 + 0 = 0 + j * 2 by omega]; exact this
    have k1 : W.cell? ⟨gp, 0 + j * 2 + 1, none⟩ = some (.int .i64 (r.1.pend[j].2 : Nat)) := by
      have := t0W.cell (hcs _ _ hc1) (by simp)
      rw [show 0 + j * 2 + 1 = 0 + (j * 2 + 1) by omega]; exact this
    refine draw_rule cx_ok [] (Plan.takes [0, 1, 2, 3, 4, 5, 6, 7, 8, 9, 10, 11, 12] (.one false 13 .done)) (by kernel_rfl) ?_
    intro W1 d
    have td : Tr [b6] w6 W1 := tW.trans d.tr (fun _ h => h) (fun _ h _ => by cases h)
    refine ⟨_, fun w' t => t.cell (hpc W tW) (by simp), j, rfl, hjp, _, fun w' t => t.cell k0 (by simp), _, fun w' t => t.cell (hpc W tW) (by simp), j, rfl, hjp, _, fun w' t => t.cell k1 (by simp), r.1.pend[j].1, rfl, hqok.1, ?_⟩
    refine ⟨⟨_, _, BW.ext d.tr, by rw [wcells_len (hl8 j)]; show 0 + r.1.pend[j].1 * 1 < 8; omega, rfl, fun W5 u5 => ?_⟩, trivial⟩
    refine ⟨((j + 1 : Nat) : Int), by rw [w64 (by omega)]; omega, ?_⟩
    refine ⟨rfl, j + 1, ⟨rfl, rfl, rfl, rfl, rfl, rfl, trivial⟩, ⟨hjk, td.same u5.tr, ?_⟩, by omega⟩
    have := u5.blk
    rw [show 0 + r.1.pend[j].1 * 1 = r.1.pend[j].1 by omega, ← wcells_set, ← lay_snoc] at this
    rw [List.take_succ_eq_append_getElem hjp]
    exact this
  have hjk : j = k := by omega
  subst hjk
  rw [← hsh] at BW
  have hs8 : Line8 (r.1.shown j) := by rw [hsh]; exact hl8 j
  refine ⟨[], rfl, fun b7 w7 n7 => ?_⟩
  have e7 := n7.num; have z7 := n7.size
  have t07 := t0W.ext n7.tr
  have tW7 : Tr [b6] w6 w7 := tW.trans n7.tr (fun _ h => h) (fun _ h _ => by cases h)
  have hmark := hok.mark
  refine ⟨_, hpc w7 tW7, j, r.1.pend.length, rfl, rfl, hk, hncap, ?_⟩
  have hsl : Sli w7 (.slice (some (sadr gp 0 j 2 cp)) (r.1.pend.length - j) (cp - j)) (r.1.pend.length - j) (pcells (r.1.pend.drop j)) := by
    refine ⟨_, _, rfl, by omega, .inr ?_⟩
    unfold sadr
    by_cases hcp : cp = j
    · rw [if_pos hcp]
      refine ⟨gp, 0, rfl, ?_⟩
      rw [List.drop_of_length_le (by omega)]
      intro i v hv
      simp [pcells] at hv
    · rw [if_neg hcp]
      refine ⟨gp, 0 + j * 2, rfl, fun m v hv => ?_⟩
      rw [pcells_drop, List.getElem?_drop] at hv
      have := t07.cell (hcs _ _ hv) (by simp)
      rw [show 0 + j * 2 + m = 0 + (j * 2 + m) by omega]
      exact this
  refine append_gen (x := ⟨1, 24, false, [.slice none 0 0], .slice 123⟩) rfl rfl rfl (by decide) (row_empty n7) hsl (by rw [pcells_len, List.length_drop]) (pcells_one _) (by omega) (by decide) ?_
  intro v8 w8 hr8 t8 hat8
  have z8 := t8.size
  have hv8 : ∀ b, v8.ownBlock = some b → w.heap.size ≤ b := fun b hb => by
    have z0 := t0W.size
    rcases hat8 with e | e
    · rw [e] at hb; simp [Value.ownBlock] at hb; omega
    · rw [e] at hb; have := Option.some.inj hb; omega
  rw [Nat.zero_add, List.nil_append] at hr8
  have t08 : Tr [] w w8 := t07.trans t8 (fun _ h => h) (fun b hb hlt => by have := t0W.size; simp [Value.ownBlock] at hb; omega)
  have tW8 : Tr [b7] W w8 := n7.tr.trans t8 (fun _ h => by cases h) (fun b hb _ => by simp [Value.ownBlock] at hb; simp [hb])
  have B8 := BW.tr tW8 (by have := BW.lt; simp; omega)
  have t58 : Tr [b6, b7] w6 w8 := tW.trans tW8 (fun b hb => by simp at hb; simp [hb]) (fun b hb _ => by simp at hb; simp [hb])
  have C8 := C5.tr t58 (by simp; omega)
  have h8 := h.ext t08
  obtain ⟨a8, c8, hv8'⟩ := Row.slice hr8
  obtain ⟨r', hr'⟩ : ∃ r' : Ln × Value, r' = (r.1.settle j, v8) := ⟨_, rfl⟩
  have hL := h.lens
  have hokr : r'.1.Ok := by rw [hr']; exact hok.settle j
  have hl11 := lcells_len hokr
  have hone' : (lcells r').all E.one = true := by
    rw [hr', hv8']
    simp [lcells, wcells, E.one]
  have hfill := sline_fill (r.1.shown j) hs8.len (enc (r.1.shown j)) (r.1.mark - j) (r.1.pend.drop j) a8 (r.1.pend.length - j) c8
  have hre : lcells (⟨r.1.shown j, enc (r.1.shown j), r.1.pend.drop j, r.1.mark - j⟩, .slice a8 (r.1.pend.length - j) c8) = lcells r' := by rw [hr', hset, hv8']
  rw [hre, ← hv8'] at hfill
  have hmx : (if ((r.1.mark : Int) - j) > 0 then ((r.1.mark : Int) - j) else 0) = ((r.1.mark - j : Nat) : Int) := by split <;> omega
  have fin : ∀ W1, Tr [] w8 W1 → StN W1 g (0 + i * 11) 11 (lcells r') fun W2 => ∃ v', RX W2 p (rows.set i (r.1.settle j, v')) (.slice (some ⟨g, 0, none⟩) rows.length cap) evv span nev ∧ Step w W2 (rfoot p rows (.slice (some ⟨g, 0, none⟩) rows.length cap) evv) (rfoot p (rows.set i (r.1.settle j, v')) (.slice (some ⟨g, 0, none⟩) rows.length cap) evv) := by
    intro W1 tW1
    have t01 := t08.ext tW1
    refine Row.storeN (h.ext t01).lines rfl hl11 (by rw [fm_len hL]; omega) hone' fun W2 t2 hr2 => ?_
    have e : splice (rows.flatMap lcells) (0 + i * 11) 11 (lcells r') = (rows.set i r').flatMap lcells := by
      rw [← fm_splice (k := 11) (n := 11) (o := 0) (vs := lcells r') splice (by funext l o n vs; rfl) hL hr (by omega) (by rw [splice_all (hL _ (List.mem_of_getElem? hr)) hl11]), show i * 11 + 0 = 0 + i * 11 by omega]
    rw [e] at hr2
    have t02 : Tr [g] w W2 := t01.of_ext.trans t2 (fun _ h => h) (fun _ h _ => h)
    obtain ⟨m2, f2⟩ := h.set hr (r' := r') t02 (fun b hb => .inl (by simp at hb; rw [hb]; rfl)) hr2 (by
      rw [hr', hset]
      show Row W2 _ 2 v8 (r.1.pend.drop j).length _
      rw [List.length_drop]
      have hgl := h.foot_lt g (RX.in_l rfl)
      exact Row.tr (Row.tr hr8 tW1 (by simp)) t2 (fun b hb hmm => by have := hv8 b hb; simp at hmm; omega)) hokr (fun b hb => .inr (hv8 b (by rw [hr'] at hb; exact hb)))
    rw [hr'] at m2 f2
    exact ⟨v8, m2, t02.mono fun b hb _ => by simp at hb; rw [hb]; exact RX.in_l rfl, f2⟩
  refine draw_rule cx_ok [] (Plan.takes [0, 1, 2, 3, 4, 5, 6, 8, 9, 10, 11, 12] (.alt true 7 (.one true 13 (Plan.takes [14] (.one true 15 (.one false 16 .done)))) (.alt true 13 (.one true 7 (Plan.takes [14] (.one true 15 (.one false 16 .done)))) .stop))) (by kernel_rfl) ?_
  intro w9 d
  have B9 := B8.ext d.tr
  refine ⟨_, fun w' t => t.cell (h8.head.cell rfl) (by simp), _, fun w' t => B8.all.tr t (by simp), wcells_len hs8, _, fun w' t => B8.all.tr t (by simp), wcells_len hs8, _, fun w' t => t.cell (C8.cell (lcells_mark hok)) (by simp), ?_⟩
  refine ⟨((r.1.mark : Int) - j), by rw [w64 (by omega)], ?_⟩
  refine ⟨?_, ?_, trivial⟩
  · refine call (Encode03_calls _ hs8 w9) ?_
    rintro _ w10 ⟨rfl, t10⟩
    refine ⟨d.tr.ext t10, ?_⟩
    refine ⟨?_, trivial⟩
    refine ⟨_, w10, max_run _ _ _ _ _ _, ?_⟩
    rw [hmx]
    refine ⟨d.tr.ext t10, ?_⟩
    refine ⟨_, hfill, ?_⟩
    refine ⟨⟨i, rfl, hi, d.tr.ext t10, ?_⟩, trivial⟩
    exact ⟨fin _ (d.tr.ext t10), trivial⟩
  · refine ⟨_, w9, max_run _ _ _ _ _ _, ?_⟩
    rw [hmx]
    refine ⟨d.tr, ?_⟩
    refine ⟨?_, trivial⟩
    refine call (Encode03_calls _ hs8 w9) ?_
    rintro _ w10 ⟨rfl, t10⟩
    refine ⟨d.tr.ext t10, ?_⟩
    refine ⟨_, hfill, ?_⟩
    refine ⟨⟨i, rfl, hi, d.tr.ext t10, ?_⟩, trivial⟩
    exact ⟨fin _ (d.tr.ext t10), trivial⟩

end

end Go.Proofs.YthepaakejpbppaaGreatDoor

/- The specification's memory: Fence, Evict, Heal. -/
namespace Go.Proofs.YthepaakejpbppaaGreatDoor
open Go.E

def fenceK (L : List Ln) (k : Nat) : List Ln := (L.take k).map (fun l => l.settle l.mark) ++ L.drop k
theorem fenceK_zero (L : List Ln) : fenceK L 0 = L := by simp [fenceK]
theorem fenceK_all (L : List Ln) : fenceK L L.length = fenceL L := by simp [fenceK, fenceL]
theorem fenceK_len {L : List Ln} {k : Nat} (h : k ≤ L.length) : (fenceK L k).length = L.length := by simp [fenceK]; omega
theorem fenceK_get {L : List Ln} {k : Nat} (h : k < L.length) : (fenceK L k)[k]? = L[k]? := by
  unfold fenceK
  rw [List.getElem?_append_right (by rw [List.length_map, List.length_take]; omega), List.getElem?_drop]
  congr 1
  simp; omega
theorem fenceK_step {L : List Ln} {k : Nat} {l : Ln} (h : L[k]? = some l) : (fenceK L k).set k (l.settle l.mark) = fenceK L (k + 1) := by
  have hk := (List.getElem?_eq_some_iff.1 h).1
  have hl : ((L.take k).map (fun l => l.settle l.mark)).length = k := by simp; omega
  unfold fenceK
  rw [List.set_append, if_neg (by omega), hl, Nat.sub_self, List.drop_eq_getElem_cons hk, List.set_cons_zero, take_snoc h]
  simp
theorem fenceL_pend {L : List Ln} {N : Nat} (h : ∀ l ∈ L, l.pend.length ≤ N) : ∀ l ∈ fenceL L, l.pend.length ≤ N := fun l hl => by
  obtain ⟨l0, h0, rfl⟩ := List.mem_map.1 hl
  have := h l0 h0
  have := settle_pend l0 l0.mark
  omega

section
variable {w : World} {p : Nat} {L : List Ln} {span N : Nat} {F : List Nat}

theorem Fence04_gen (h : RMem w p L span N F) (hsd : Sd L) (hN : N < 549755813888) :
    Calls cx.P 36 #[.pointer (some ⟨p, 0, none⟩)] w (Ret fun _ w' => ∃ F', RMem w' p (fenceL L) span (N + 1) F' ∧ Step w w' F F') := by
  refine calls_body cx_ok (args := [.pointer (some ⟨p, 0, none⟩)]) Tryz.func36 rfl 33 rfl rfl [] rfl ?_
  have hLs := h.small
  have hok := h.ok
  obtain ⟨rows, lv, evv, nev, hm, hrows, hn, hpend, rfl⟩ := h
  refine loop_rule cx_ok (fun k W => k ≤ L.length ∧ ∃ rows', RX W p rows' lv evv span nev ∧ rows'.map (·.1) = fenceK L k ∧ Step w W (rfoot p rows lv evv) (rfoot p rows' lv evv)) (fun k : Nat => [(0, .pointer (some ⟨p, 0, none⟩)), (2, .int .i64 k)]) (fun k => L.length - k) 0 ⟨rfl, rfl, trivial⟩ ⟨by omega, rows, hm, by rw [hrows, fenceK_zero], Step.refl _ _⟩ ?_
  rintro k W ⟨hk, rows', hm', hr', hs'⟩
  have hlen : rows'.length = L.length := by rw [← fenceK_len hk, ← hr', List.length_map]
  obtain ⟨a, c, hlv⟩ := hm'.slice
  rw [hlen] at hlv
  subst hlv
  refine ⟨_, hm'.head.cell rfl, fun hlt => ?_, fun hge => ?_⟩
  · have hkL : k < L.length := by omega
    obtain ⟨vv, hrk⟩ := row_at hr' (i := k) (by rw [fenceK_len hk]; exact hkL)
    have hget : lnAt (fenceK L k) k = lnAt L k := by
      have := fenceK_get hkL
      rw [lnAt_get (by rw [fenceK_len hk]; exact hkL), lnAt_get hkL] at this
      exact Option.some.inj this
    rw [hget] at hrk
    obtain ⟨l, hl⟩ : ∃ l, l = lnAt L k := ⟨_, rfl⟩
    have hlm : l ∈ L := by rw [hl]; exact lnAt_mem hkL
    have hlg : L[k]? = some l := by rw [hl]; exact lnAt_get hkL
    rw [← hl] at hrk
    obtain ⟨g, cap, he, hc⟩ := hm'.list (i := k) (by omega)
    obtain ⟨rfl, _, rfl⟩ := Value.slice.inj he
    have hcr := rcell hm'.lens hc hrk
    have hlok := hok l hlm
    have hpl := hpend l hlm
    refine ⟨_, hm'.head.cell rfl, k, rfl, hkL, _, hcr 10 _ (lcells_mark (r := (l, vv)) hlok), ?_⟩
    refine call (settle04_calls hm' k l.mark hrk hlok.mark (hsd l hlm) (by show l.pend.length ≤ _; omega)) ?_
    rintro _ w2 ⟨v', m2, s2⟩
    refine ⟨((k + 1 : Nat) : Int), by rw [w64 (by omega)]; omega, ?_⟩
    exact ⟨rfl, k + 1, ⟨rfl, rfl, trivial⟩, ⟨by omega, _, m2, by rw [List.map_set, hr', fenceK_step hlg], hs'.trans s2⟩, by omega⟩
  · have hkL : k = L.length := by omega
    rw [hkL, fenceK_all] at hr'
    refine ⟨_, hm'.head.cell rfl, _, rfl, _, rfl, fun b8 w8 n8 => ?_⟩
    refine RMem.ev_of (hm'.ext n8.tr) (L := fenceL L) (N := N) hr' hn (fun l' hl' => ?_) hN (hs'.ext n8.tr) n8.blk rfl rfl fun evv' w9 t9 hh hone hK => ?_
    · have := fenceL_pend hpend l' hl'; omega
    exact ⟨_, _, hh, by show 2 < 3; decide, hone, fun w10 u10 => hK w10 u10⟩

theorem Evict04_gen (h : RMem w p L span N F) (hsd : Sd L) (hN : N < 549755813888) (n k : Int) :
    Calls cx.P 99 #[.pointer (some ⟨p, 0, none⟩), .int .i64 n, .int .i64 k] w
      (Ret fun x w' => x = .int .i64 (evictL L n k).1 ∧ ∃ F', RMem w' p (evictL L n k).2 span (N + 1) F' ∧ Step w w' F F') := by
  refine calls_body cx_ok (args := [.pointer (some ⟨p, 0, none⟩), .int .i64 n, .int .i64 k]) Tryz.func99 rfl 42 rfl rfl [.tmp 6] rfl ?_
  refine call (h.has n) ?_
  rintro _ _ ⟨rfl, rfl⟩
  unfold evictL
  by_cases hi : inB L n
  · rw [decide_eq_true hi, if_neg (fun h => h hi)]
    obtain ⟨i, hin⟩ : ∃ i, i = n.toNat := ⟨_, rfl⟩
    obtain ⟨h0, hlt⟩ := hi
    have hne : n = (i : Int) := by omega
    have hiL : i < L.length := by omega
    rw [← hin, hne]
    obtain ⟨rows, lv, evv, nev, hm, hrows, hn, hpend, rfl⟩ := id h
    obtain ⟨vv, hr⟩ := row_at hrows hiL
    obtain ⟨l, hld⟩ : ∃ l, l = lnAt L i := ⟨_, rfl⟩
    rw [← hld] at hr ⊢
    have hir : i < rows.length := (List.getElem?_eq_some_iff.1 hr).1
    have hlm : l ∈ L := by rw [hld]; exact lnAt_mem hiL
    have hok : l.Ok := hm.ok _ (List.mem_of_getElem? hr)
    have hpl : l.pend.length ≤ N := hpend _ hlm
    obtain ⟨g, cap, hlv, hc⟩ := hm.list hir
    have hcr := rcell hm.lens hc hr
    have hrow : Row w 123 2 vv l.pend.length (pcells l.pend) := hm.pend _ (List.mem_of_getElem? hr)
    obtain ⟨a, c, hvv⟩ := Row.slice hrow
    have hpc : w.cell? ⟨g, 0 + i * 11 + 9, none⟩ = some vv := hcr 9 _ (lcells_pend hok)
    rw [hvv] at hpc
    subst hlv
    by_cases hk : 1 ≤ k ∧ k ≤ l.pend.length
    · rw [if_neg (fun h => h hk)]
      obtain ⟨q, hq⟩ : ∃ q, q = k.toNat := ⟨_, rfl⟩
      have hke : k = (q : Int) := by omega
      rw [← hq, hke]
      refine ⟨fun h => absurd h (by omega), fun _ => ?_⟩
      refine ⟨_, hm.head.cell rfl, i, rfl, hir, _, hpc, fun h => absurd h (by omega), fun _ => ?_⟩
      refine call (settle04_calls hm i q hr (by show q ≤ l.pend.length; omega) (hsd l hlm) (by show l.pend.length ≤ _; omega)) ?_
      rintro _ w2 ⟨v', m2, s2⟩
      refine ⟨_, m2.head.cell rfl, _, rfl, _, rfl, fun b8 w8 n8 => ?_⟩
      refine RMem.ev_of (m2.ext n8.tr) (L := L.set i (l.settle q)) (N := N) (by rw [List.map_set, hrows]) hn (fun l' hl' => ?_) hN (s2.ext n8.tr) n8.blk rfl rfl fun evv' w9 t9 hh hone hK => ?_
      · rcases List.mem_or_eq_of_mem_set hl' with hl' | rfl
        · have := hpend l' hl'; omega
        · have := settle_pend l q; omega
      exact ⟨_, _, hh, by show 2 < 3; decide, hone, fun w10 u10 => ⟨rfl, hK w10 u10⟩⟩
    · rw [if_pos hk]
      refine ⟨fun _ => ⟨rfl, h.same (Tr.refl _ _)⟩, fun hk1 => ?_⟩
      refine ⟨_, hm.head.cell rfl, i, rfl, hir, _, hpc, fun _ => ⟨rfl, h.same (Tr.refl _ _)⟩, fun hk2 => absurd (show 1 ≤ k ∧ k ≤ (l.pend.length : Int) from ⟨by omega, by omega⟩) hk⟩
  · rw [decide_eq_false hi, if_pos hi]
    exact ⟨rfl, h.same (Tr.refl _ _)⟩

theorem sline_fill2 (ws : List Nat) (h8 : ws.length = 8) (c : Nat) : fillL ([(0, 8), (8, 1), (9, 1), (10, 1)][·]?) [.int .i64 0, .int .i64 0, .int .i64 0, .int .i64 0, .int .i64 0, .int .i64 0, .int .i64 0, .int .i64 0, .int .i64 0, .slice none 0 0, .int .i64 0]
    [(0, .agg (wcells ws).toArray), (1, .int .i64 (c : Nat))] = some (lcells (⟨ws, c, [], 0⟩, nilv)) := by
  match ws, h8 with
  | [a, b, c', d, e, f, g, h], _ => rfl

set_option maxHeartbeats 1000000 in
theorem Heal04_gen (h : RMem w p L span N F) (hN : N < 549755813888) (n : Int) (xs : List Int) (h8 : xs.length = 8) :
    Calls cx.P 100 #[.pointer (some ⟨p, 0, none⟩), .int .i64 n, .agg (i64s xs).toArray] w
      (Ret fun x w' => x = .int .i64 (healL L n xs).1 ∧ ∃ F', RMem w' p (healL L n xs).2 span (N + 1) F' ∧ Step w w' F F') := by
  refine calls_body cx_ok (args := [.pointer (some ⟨p, 0, none⟩), .int .i64 n, .agg (i64s xs).toArray]) Tryz.func100 rfl 36 rfl rfl [.tmp 6] rfl ?_
  intro b5 w1 n1
  have e1 := n1.num; have z1 := n1.size
  have B5 : Blk w1 b5 (i64s xs) 69 := n1.blk
  have h1 := h.ext n1.tr
  have hb5 : b5 ∉ F := fun hm => by have := h.lt b5 hm; omega
  have fin : ∀ (W : World) (e : Int), Tr [] w W → (Value.int .i64 e = .int .i64 e ∧ ∃ F', RMem W p L span (N + 1) F' ∧ Step w W F F') := fun W e t => ⟨rfl, h.same t⟩
  refine call (h1.has n) ?_
  rintro _ _ ⟨rfl, rfl⟩
  unfold healL
  by_cases hi : inB L n
  · rw [decide_eq_true hi, if_neg (fun h => h hi)]
    refine ⟨_, B5.all, by rw [i64s_len]; exact h8, ?_⟩
    refine call (Words04_calls xs h8) ?_
    rintro _ w2 ⟨rfl, t2⟩
    cases hw : xs.all wordI with
    | false => exact fin w2 1 (n1.tr.ext t2)
    | true =>
    rw [if_neg (by decide)]
    obtain ⟨hl8, hxe⟩ := nat_words h8 hw
    obtain ⟨ws, hws⟩ : ∃ ws, ws = xs.map Int.toNat := ⟨_, rfl⟩
    rw [← hws] at hl8 hxe ⊢
    rw [hxe] at B5
    have h2' := h1.ext t2
    have t12 := n1.tr.ext t2
    obtain ⟨i, hin⟩ : ∃ i, i = n.toNat := ⟨_, rfl⟩
    obtain ⟨h0, hlt⟩ := hi
    have hne : n = (i : Int) := by omega
    have hiL : i < L.length := by omega
    rw [← hin, hne]
    obtain ⟨rows, lv, evv, nev, hm, hrows, hn, hpend, rfl⟩ := h2'
    obtain ⟨vv, hr⟩ := row_at hrows hiL
    have hir : i < rows.length := (List.getElem?_eq_some_iff.1 hr).1
    have hlen := wcells_len hl8
    have B52 := B5.ext t2
    obtain ⟨g, cap, hlv, hc⟩ := hm.list hir
    subst hlv
    refine draw_rule cx_ok [] (Plan.takes [0, 1, 2, 3, 4, 5, 6] (.one true 7 (Plan.takes [8] (.one true 9 (.one false 10 .done))))) (by kernel_rfl) ?_
    intro w3 d
    refine ⟨_, fun w' t => t.cell (hm.head.cell rfl) (by simp), _, fun w' t => B52.all.tr t (by simp), hlen, _, fun w' t => B52.all.tr t (by simp), hlen, ?_⟩
    refine ⟨?_, trivial⟩
    refine call (Encode03_calls ws hl8 w3) ?_
    rintro _ w4 ⟨rfl, t4⟩
    have t24 := d.tr.ext t4
    refine ⟨t24, ?_⟩
    refine ⟨_, sline_fill2 ws hl8.len (enc ws), ?_⟩
    refine ⟨⟨i, rfl, hir, t24, ?_⟩, trivial⟩
    obtain ⟨r', hr'⟩ : ∃ r' : Ln × Value, r' = (quiet ws, nilv) := ⟨_, rfl⟩
    have hL := hm.lens
    have hok' : r'.1.Ok := by rw [hr']; exact quiet_ok hl8
    have hl11 : (lcells r').length = 11 := lcells_len hok'
    have hone : (lcells r').all E.one = true := by rw [hr']; simp [lcells, wcells, E.one, nilv]
    have hrq : lcells (⟨ws, enc ws, [], 0⟩, nilv) = lcells r' := by rw [hr']; rfl
    rw [hrq]
    refine ⟨Row.storeN (hm.ext t24).lines rfl hl11 (by rw [fm_len hL]; show 0 + i * 11 + 11 ≤ _; omega) hone fun w5 t5 hr5 => ?_, trivial⟩
    have e : splice (rows.flatMap lcells) (0 + i * 11) 11 (lcells r') = (rows.set i r').flatMap lcells := by
      rw [← fm_splice (k := 11) (n := 11) (o := 0) (vs := lcells r') splice (by funext l o n vs; rfl) hL hr (by omega) (by rw [splice_all (hL _ (List.mem_of_getElem? hr)) hl11]), show i * 11 + 0 = 0 + i * 11 by omega]
    rw [e] at hr5
    have t25 : Tr [g] _ w5 := t24.of_ext.trans t5 (fun _ h => h) (fun _ h _ => h)
    obtain ⟨m5, f5⟩ := hm.set hr (r' := r') t25 (fun b hb => .inl (by simp at hb; rw [hb]; rfl)) hr5 (by rw [hr']; exact World.ownsRow_nil _ _ _ _) hok' (fun b hb => by rw [hr'] at hb; simp [nilv, Value.ownBlock] at hb)
    have hs5 : Step w w5 (rfoot p rows (.slice (some ⟨g, 0, none⟩) rows.length cap) evv) (rfoot p (rows.set i r') (.slice (some ⟨g, 0, none⟩) rows.length cap) evv) := Step.of_ext t12 ⟨t25.mono fun b hb _ => by simp at hb; rw [hb]; exact RX.in_l rfl, f5⟩
    have hb5g : b5 ≠ g := fun e => hb5 (e ▸ RX.in_l rfl)
    have B55 := B52.tr t25 (by simp; exact hb5g)
    obtain ⟨cs, hcs, hcl, hc1⟩ := ev_fill 6 (i : Nat) 0 ws hl8.len
    refine draw_rule cx_ok evv.ownBlock.toList (Plan.takes [0, 1, 2, 3, 4, 5, 6, 7] (.one true 8 (.one true 9 (.one true 10 (.one true 11 (.one false 12 .done)))))) (by kernel_rfl) ?_
    intro w6 d6
    have hpX : p ∉ evv.ownBlock.toList := fun hb => (m5.e_ne (by simpa using hb)).1 rfl
    have hbX : b5 ∉ evv.ownBlock.toList := fun hb => hb5 (RX.in_e (by simpa using hb))
    refine ⟨_, fun w' t => t.cell (m5.head.cell rfl) hpX, _, fun w' t => B55.all.tr t hbX, hlen, cs, hcs, ?_⟩
    refine ⟨⟨cs, fill_one (sz := 12) rfl hcl, fun b8 w8 n8 => ⟨(d6.tr.ext n8.tr).of_ext, ?_, trivial⟩⟩, trivial⟩
    have t68 := d6.tr.ext n8.tr
    refine RMem.ev_of (m5.ext t68) (L := L.set i (quiet ws)) (N := N) (by rw [List.map_set, hrows, hr']) hn (fun l' hl' => ?_) hN (hs5.ext t68) n8.blk hcl hc1 fun evv' w9 t9 hh hone' hK => ?_
    · rcases List.mem_or_eq_of_mem_set hl' with hl' | rfl
      · have := hpend l' hl'; omega
      · show 0 ≤ N + 1; omega
    have hS : Tr evv.ownBlock.toList w5 w9 := t68.of_ext.trans t9 (fun _ h => h) (fun _ h _ => h)
    refine ⟨hS, ⟨hS, ⟨hS, ⟨⟨_, _, hh, by show 2 < 3; decide, hone', fun w10 u10 => ⟨rfl, hK w10 u10⟩⟩, trivial⟩⟩, trivial⟩, trivial⟩
  · rw [decide_eq_false hi, if_pos hi]
    exact fin _ 40 n1.tr

end

end Go.Proofs.YthepaakejpbppaaGreatDoor

/- The specification's memory: Rot, New, Load. -/
namespace Go.Proofs.YthepaakejpbppaaGreatDoor
open Go.E

theorem wline_cells (l : Ln) (v : Value) (ws : List Nat) {k x : Nat} (hk : k < ws.length) : (lcells (wline l ws, v)).set k (.int .i64 (x : Nat)) = lcells (wline l (ws.set k x), v) := by
  show (wcells ws ++ _).set k _ = wcells (ws.set k x) ++ _
  rw [wcells_set, List.set_append, if_pos (by simp [wcells]; omega)]
  rfl

section
variable {w : World} {p : Nat} {L : List Ln} {span N : Nat} {F : List Nat}

set_option maxHeartbeats 1000000 in
theorem Rot04_gen (h : RMem w p L span N F) (hN : N < 549755813888) (n : Int) (xs : List Int) (h8 : xs.length = 8) (c : Int) :
    Calls cx.P 101 #[.pointer (some ⟨p, 0, none⟩), .int .i64 n, .agg (i64s xs).toArray, .int .i64 c] w
      (Ret fun x w' => x = .int .i64 (rotL L n xs c).1 ∧ ∃ F', RMem w' p (rotL L n xs c).2 span (N + 1) F' ∧ Step w w' F F') := by
  refine calls_body cx_ok (args := [.pointer (some ⟨p, 0, none⟩), .int .i64 n, .agg (i64s xs).toArray, .int .i64 c]) Tryz.func101 rfl 83 rfl rfl [.tmp 8] rfl ?_
  intro b6 w1 n1
  have e1 := n1.num; have z1 := n1.size
  have B6 : Blk w1 b6 (i64s xs) 69 := n1.blk
  have h1 := h.ext n1.tr
  have hb6 : b6 ∉ F := fun hm => by have := h.lt b6 hm; omega
  have fin : ∀ (W : World) (e : Int), Tr [] w W → (Value.int .i64 e = .int .i64 e ∧ ∃ F', RMem W p L span (N + 1) F' ∧ Step w W F F') := fun W e t => ⟨rfl, h.same t⟩
  refine call (h1.has n) ?_
  rintro _ _ ⟨rfl, rfl⟩
  unfold rotL
  by_cases hi : inB L n
  · rw [decide_eq_true hi, if_neg (fun h => h hi)]
    refine ⟨_, B6.all, by rw [i64s_len]; exact h8, ?_⟩
    refine call (Words04_calls xs h8) ?_
    rintro _ w2 ⟨rfl, t2⟩
    have t12 := n1.tr.ext t2
    cases hw : xs.all wordI with
    | false => rw [if_pos (.inl rfl)]; exact fin w2 1 t12
    | true =>
    refine ⟨fun hc0 => ?_, fun hc0 => ⟨fun hc1 => ?_, fun hc1 => ?_⟩⟩
    · rw [if_pos (.inr (.inl hc0))]; exact fin w2 1 t12
    · rw [if_pos (.inr (.inr (by omega)))]; exact fin w2 1 t12
    rw [if_neg (by simp; omega)]
    obtain ⟨hl8, hxe⟩ := nat_words h8 hw
    obtain ⟨ys, hys⟩ : ∃ ys, ys = xs.map Int.toNat := ⟨_, rfl⟩
    rw [← hys] at hl8 hxe ⊢
    rw [hxe] at B6
    have h2' := h1.ext t2
    obtain ⟨i, hin⟩ : ∃ i, i = n.toNat := ⟨_, rfl⟩
    obtain ⟨q, hq⟩ : ∃ q, q = c.toNat := ⟨_, rfl⟩
    obtain ⟨h0, hlt⟩ := hi
    have hne : n = (i : Int) := by omega
    have hce : c = (q : Int) := by omega
    have hiL : i < L.length := by omega
    rw [← hin, ← hq]
    obtain ⟨rows, lv, evv, nev, hm, hrows, hn, hpend, rfl⟩ := h2'
    obtain ⟨vv, hr⟩ := row_at hrows hiL
    obtain ⟨l, hld⟩ : ∃ l, l = lnAt L i := ⟨_, rfl⟩
    rw [← hld] at hr ⊢
    have hir : i < rows.length := (List.getElem?_eq_some_iff.1 hr).1
    have hok : l.Ok := hm.ok _ (List.mem_of_getElem? hr)
    have hlen := wcells_len hl8
    have B62 := B6.ext t2
    have hrow : Row w2 123 2 vv l.pend.length (pcells l.pend) := hm.pend _ (List.mem_of_getElem? hr)
    obtain ⟨g, cap, hlv, hc⟩ := hm.list hir
    have hcr := rcell hm.lens hc hr
    subst hlv
    obtain ⟨a, cc, hvv⟩ := Row.slice hrow
    have hpc : w2.cell? ⟨g, 0 + i * 11 + 9, none⟩ = some vv := hcr 9 _ (lcells_pend hok)
    rw [hvv] at hpc
    rw [hne]
    refine ⟨_, hm.head.cell rfl, i, rfl, hir, _, hpc, fun hp => ?_, fun hp => ?_⟩
    · rw [if_pos (fun e => by rw [e] at hp; exact absurd hp (by decide))]; exact fin w2 4 t12
    have hpd : l.pend = [] := List.eq_nil_of_length_eq_zero (by omega)
    rw [if_neg (fun h => h hpd)]
    have hL := hm.lens
    have hone : (lcells (l, vv)).all E.one = true := by rw [hvv]; simp [lcells, wcells, E.one]
    refine ⟨_, hm.head.cell rfl, i, rfl, hir, lcells (l, vv), hcr, lcells_len hok, ?_⟩
    intro b9 w3 n3
    have e3 := n3.num; have z3 := n3.size; have z2 := t2.size
    refine ⟨_, _, n3.blk, lcells_len (r := (l, vv)) hok, by show 0 + 11 ≤ 11; decide, hone, fun w4 u4 => ?_⟩
    have z4 := u4.size
    have B9 : Blk w4 b9 (lcells (l, vv)) 142 := Upd.whole u4 rfl (lcells_len (r := (l, vv)) hok)
    have t24 : Tr [] w2 w4 := u4.ext n3.tr (by omega)
    have B64 := B62.ext t24
    have hx8 : ∀ k, k ≤ 8 → (xorK l.ws ys k).length = 8 := fun k hk => by rw [xorK_len (by rw [hl8.len, hok.ws.len]) (by rw [hok.ws.len]; exact hk), hok.ws.len]
    have hc8 : ∀ k, k ≤ 8 → (lcells (wline l (xorK l.ws ys k), vv)).length = 11 := fun k hk => by
      show (wcells (xorK l.ws ys k) ++ _).length = 11
      rw [List.length_append]
      simp only [wcells, List.length_map, hx8 k hk, List.length_cons, List.length_nil]
    refine loop_rule cx_ok (fun k W => k ≤ 8 ∧ Tr [b9] w4 W ∧ Blk W b9 (lcells (wline l (xorK l.ws ys k), vv)) 142) (fun k : Nat => [(0, .pointer (some ⟨p, 0, none⟩)), (1, .int .i64 i), (3, .int .i64 c), (6, .pointer (some ⟨b6, 0, none⟩)), (9, .pointer (some ⟨b9, 0, none⟩)), (10, .int .i64 k)]) (fun k => 8 - k) 0
      ⟨rfl, rfl, rfl, rfl, rfl, rfl, trivial⟩ ⟨by omega, Tr.refl _ _, by rw [xorK_zero]; exact B9⟩ ?_
    rintro k W ⟨hk, tW, BW⟩
    have zW := tW.size
    have hb6lt := B64.lt
    have B6W := B64.tr tW (by have := B62.lt; simp; omega)
    refine ⟨fun hlt8 => ?_, fun hge => ?_⟩
    · have hk8 : k < 8 := by omega
      obtain ⟨y, hy, hy40, _, hyc⟩ := hl8.at hk8
      obtain ⟨x, hx, hx40, _, _⟩ := hok.ws.at hk8
      obtain ⟨hst, hgk⟩ := xorK_step hx hy
      have hcell : W.cell? ⟨b9, 0 + 0 + k * 1, none⟩ = some (.int .i64 (x : Nat)) := by
        rw [show 0 + 0 + k * 1 = k by omega]
        refine BW.cell ?_
        show (wcells (xorK l.ws ys k) ++ _)[k]? = _
        rw [List.getElem?_append_left (by simp [wcells, hx8 k hk]; exact hk8)]
        simp [wcells, hgk]
      have hcell6 : W.cell? ⟨b6, 0 + k * 1, none⟩ = some (.int .i64 (y : Nat)) := by
        rw [show 0 + k * 1 = k by omega]
        exact B6W.cell hyc
      refine draw_rule cx_ok [] (Plan.takes [0, 1, 2, 3, 4, 5, 6, 7, 8] (.one true 9 (.one true 10 (.one false 11 .done)))) (by kernel_rfl) ?_
      intro W1 d
      refine ⟨k, rfl, hk8, _, fun w' t => t.cell hcell (by simp), k, rfl, hk8, _, fun w' t => t.cell hcell6 (by simp), _, bits_xor _ _ (by omega) (by omega), ?_⟩
      refine ⟨⟨d.tr, ?_⟩, trivial⟩
      refine ⟨⟨k, rfl, hk8, d.tr, ?_⟩, trivial⟩
      refine ⟨⟨_, _, BW.ext d.tr, by rw [hc8 k hk]; show 0 + 0 + k * 1 < _; omega, rfl, fun W2 u2 => ?_⟩, trivial⟩
      refine ⟨((k + 1 : Nat) : Int), by rw [w64 (by omega)]; omega, ?_⟩
      refine ⟨rfl, k + 1, ⟨rfl, rfl, rfl, rfl, rfl, rfl, trivial⟩, ⟨by omega, (tW.trans d.tr (fun _ h => h) (fun _ h _ => by cases h)).same u2.tr, ?_⟩, by omega⟩
      have hb := u2.blk
      rw [show 0 + 0 + k * 1 = k by omega, wline_cells l vv _ (by rw [hx8 k hk]; exact hk8), hst] at hb
      exact hb
    · have hk8 : k = 8 := by omega
      subst hk8
      rw [xorK_all hok.ws.len hl8.len] at BW
      have hxl : (xorW l.ws ys).length = 8 := (xorW_ok hok.ws hl8).len
      have hcode : W.cell? ⟨b9, 0 + 8, none⟩ = some (.int .i64 (l.code : Nat)) := by
        rw [show 0 + 8 = 8 by omega]
        exact BW.cell (get_tail 8 (by simp only [wcells, List.length_map]; exact hxl) 0)
      have hcl := hok.code
      obtain ⟨r', hr'⟩ : ∃ r' : Ln × Value, r' = (l.rot ys q, vv) := ⟨_, rfl⟩
      have hokr : r'.1.Ok := by rw [hr']; exact hok.rot hl8 (by omega)
      have hl11 := lcells_len hokr
      rw [hce]
      refine ⟨_, hcode, _, bits_xor _ _ (by omega) (by omega), _, _, BW, by show 0 + 8 < _; rw [show (lcells (wline l (xorW l.ws ys), vv)).length = 11 by show (wcells (xorW l.ws ys) ++ _).length = 11; rw [List.length_append]; simp only [wcells, List.length_map, hxl, List.length_cons, List.length_nil]]; decide, rfl, fun W1 u1 => ?_⟩
      have B91 : Blk W1 b9 (lcells r') 142 := by
        have hb := u1.blk
        rw [show 0 + 8 = 8 by omega] at hb
        have e : (lcells (wline l (xorW l.ws ys), vv)).set 8 (.int .i64 (l.code ^^^ q : Nat)) = lcells r' := by
          rw [hr']
          exact (lcells_tail (r' := (l.rot ys q, vv)) (r := (wline l (xorW l.ws ys), vv)) (j := 0) rfl hxl (.int .i64 (l.code ^^^ q : Nat)) rfl (by omega)).symm
        rw [e] at hb
        exact hb
      have t41 : Tr [b9] w4 W1 := tW.same u1.tr
      have t21 : Tr [] w2 W1 := t24.trans t41 (fun _ h => h) (fun b hb hlt => by simp at hb; omega)
      have hm1 := hm.ext t21
      refine draw_rule cx_ok [] (Plan.takes [0, 1, 2, 3, 4, 5] (.one true 6 (.one false 7 .done))) (by kernel_rfl) ?_
      intro W2 d2
      refine ⟨_, fun w' t => t.cell (hm1.head.cell rfl) (by simp), _, fun w' t => B91.all.tr t (by simp), hl11, ?_⟩
      refine ⟨⟨i, rfl, hir, d2.tr, ?_⟩, trivial⟩
      have hone' : (lcells r').all E.one = true := by rw [hr', hvv]; simp [lcells, wcells, E.one]
      refine ⟨Row.storeN (hm1.ext d2.tr).lines rfl hl11 (by rw [fm_len hL]; show 0 + i * 11 + 11 ≤ _; omega) hone' fun W3 t3 hr3 => ?_, trivial⟩
      have e : splice (rows.flatMap lcells) (0 + i * 11) 11 (lcells r') = (rows.set i r').flatMap lcells := by
        rw [← fm_splice (k := 11) (n := 11) (o := 0) (vs := lcells r') splice (by funext l o n vs; rfl) hL hr (by omega) (by rw [splice_all (hL _ (List.mem_of_getElem? hr)) hl11]), show i * 11 + 0 = 0 + i * 11 by omega]
      rw [e] at hr3
      have t23 : Tr [g] w2 W3 := (t21.ext d2.tr).of_ext.trans t3 (fun _ h => h) (fun _ h _ => h)
      obtain ⟨m5, f5⟩ := hm.set hr (r' := r') t23 (fun b hb => .inl (by simp at hb; rw [hb]; rfl)) hr3 (by
        rw [hr']
        exact Row.tr hrow t23 fun b hb hmm => (hm.r_ne hr hb).2.1 (by simp at hmm; rw [hmm]; rfl)) hokr (fun b hb => .inl (by rw [hr'] at hb; exact hb))
      have hs5 : Step w W3 (rfoot p rows (.slice (some ⟨g, 0, none⟩) rows.length cap) evv) (rfoot p (rows.set i r') (.slice (some ⟨g, 0, none⟩) rows.length cap) evv) := Step.of_ext t12 ⟨t23.mono fun b hb _ => by simp at hb; rw [hb]; exact RX.in_l rfl, f5⟩
      have hb6g : b6 ≠ g := fun e => hb6 (e ▸ RX.in_l rfl)
      have B63 := B62.tr t23 (by simp; exact hb6g)
      obtain ⟨cs, hcs, hcl', hc1'⟩ := ev_fill2 7 (i : Nat) (q : Nat) ys hl8.len
      refine draw_rule cx_ok evv.ownBlock.toList (Plan.takes [0, 1, 2, 3, 4, 5, 6, 7, 8] (.one true 9 (.one true 10 (.one true 11 (.one true 12 (.one false 13 .done)))))) (by kernel_rfl) ?_
      intro w6 d6
      have hpX : p ∉ evv.ownBlock.toList := fun hb => (m5.e_ne (by simpa using hb)).1 rfl
      have hbX : b6 ∉ evv.ownBlock.toList := fun hb => hb6 (RX.in_e (by simpa using hb))
      refine ⟨_, fun w' t => t.cell (m5.head.cell rfl) hpX, _, fun w' t => B63.all.tr t hbX, hlen, cs, hcs, ?_⟩
      refine ⟨⟨cs, fill_one (sz := 12) rfl hcl', fun b8 w8 n8 => ⟨(d6.tr.ext n8.tr).of_ext, ?_, trivial⟩⟩, trivial⟩
      have t68 := d6.tr.ext n8.tr
      refine RMem.ev_of (m5.ext t68) (L := L.set i (l.rot ys q)) (N := N) (by rw [List.map_set, hrows, hr']) hn (fun l' hl' => ?_) hN (hs5.ext t68) n8.blk hcl' hc1' fun evv' w9 t9 hh hone' hK => ?_
      · rcases List.mem_or_eq_of_mem_set hl' with hl' | rfl
        · have := hpend l' hl'; omega
        · show l.pend.length ≤ N + 1; rw [hpd]; show 0 ≤ N + 1; omega
      have hS : Tr evv.ownBlock.toList W3 w9 := t68.of_ext.trans t9 (fun _ h => h) (fun _ h _ => h)
      refine ⟨hS, ⟨hS, ⟨hS, ⟨⟨_, _, hh, by show 2 < 3; decide, hone', fun w10 u10 => ⟨rfl, hK w10 u10⟩⟩, trivial⟩⟩, trivial⟩, trivial⟩
  · rw [decide_eq_false hi, if_pos hi]
    exact fin _ 40 n1.tr

theorem Load04_gen (h : RMem w p L span N F) (a : Int) (ha : inI64 a) :
    Calls cx.P 103 #[.pointer (some ⟨p, 0, none⟩), .int .i64 a] w (Ret fun v w' => v = .tuple #[.int .i64 (loadL L a).1, .int .i64 (loadL L a).2] ∧ Tr [] w w') := by
  have hsm := h.small
  unfold loadL
  by_cases hin : 0 ≤ a ∧ a < 8 * L.length
  · rw [if_neg (fun h => h hin)]
    obtain ⟨i, hi⟩ : ∃ i, i = a.toNat / 8 := ⟨_, rfl⟩
    obtain ⟨j, hj⟩ : ∃ j, j = a.toNat % 8 := ⟨_, rfl⟩
    have hae : a = ((8 * i + j : Nat) : Int) := by omega
    rw [← hi, ← hj, hae]
    obtain ⟨rows, lv, evv, nev, hm, h2, h3, h4, rfl⟩ := h
    obtain ⟨vv, hr⟩ := row_at h2 (i := i) (by omega)
    refine (Load04_calls hm i j (by omega) hr).mono fun e w' ⟨v, he, hv, t⟩ => ⟨v, he, ?_, t⟩
    rw [hv]
    unfold loadV
    show (match (lnAt L i).shows (lnAt L i).pend.length with | some ws => _ | none => _) = _
    cases (lnAt L i).shows (lnAt L i).pend.length <;> rfl
  · rw [if_pos hin]
    refine calls_body cx_ok (args := [.pointer (some ⟨p, 0, none⟩), .int .i64 a]) Tryz.func103 rfl 29 rfl rfl [.tmp 4, .tmp 5] rfl ?_
    refine ⟨fun _ => ⟨rfl, Tr.refl _ _⟩, fun h0 => ?_⟩
    refine ⟨_, by decide, quo8 (by omega) ha.2, ?_⟩
    refine call (h.has _) ?_
    rintro _ _ ⟨hx, rfl⟩
    rw [decide_eq_false (fun hh => by have := hh.2; omega)] at hx
    subst hx
    exact ⟨rfl, Tr.refl _ _⟩

end

end Go.Proofs.YthepaakejpbppaaGreatDoor

/- The specification's memory: New; the calls of a script. -/
namespace Go.Proofs.YthepaakejpbppaaGreatDoor
open Go.E

set_option maxHeartbeats 1000000 in
theorem New04_calls (w : World) (hw : 4 ≤ w.heap.size) (n : Nat) (hn : n ≤ 4096) :
    Calls cx.P 49 #[.int .i64 (n : Nat)] w (Ret fun v w' => Tr [] w w' ∧ ∃ p F, v = .pointer (some ⟨p, 0, none⟩) ∧ RMem w' p (List.replicate n (quiet zeros8)) 0 0 F ∧ ∀ b ∈ F, w.heap.size ≤ b) := by
  refine calls_body cx_ok (args := [.int .i64 (n : Nat)]) Tryz.func49 rfl 30 rfl rfl [.tmp 2] rfl ?_
  refine ⟨_, rfl, fun p w1 n1 => ?_⟩
  have e1 := n1.num; have z1 := n1.size
  refine ⟨fun h => absurd h (by omega), fun _ => ?_⟩
  refine ⟨_, rfl, ?_⟩
  refine call (Encode03_calls zeros8 zeros8_ok w1) ?_
  rintro _ w2 ⟨rfl, t2⟩
  have z2 := t2.size
  have B0 : Blk w1 p [nilv, .int .i64 0, nilv] 138 := n1.blk
  refine loop_rule cx_ok (fun k W => k ≤ n ∧ Tr [] w W ∧ w2.heap.size ≤ W.heap.size ∧ ∃ lv, Blk W p [lv, .int .i64 0, nilv] 138 ∧ Row W 142 11 lv k ((List.replicate k (quiet zeros8, nilv)).flatMap lcells) ∧ ∀ b, lv.ownBlock = some b → p < b)
    (fun k : Nat => [(0, .int .i64 n), (3, .pointer (some ⟨p, 0, none⟩)), (4, .int .i64 (enc zeros8 : Nat)), (5, .int .i64 k)]) (fun k => n - k) 0
    ⟨rfl, rfl, rfl, rfl, trivial⟩ ⟨by omega, n1.tr.ext t2, Nat.le_refl _, nilv, B0.ext t2, World.ownsRow_nil _ _ _ _, fun b hb => by simp [nilv, Value.ownBlock] at hb⟩ ?_
  rintro k W ⟨hk, tW, zW, lv, BW, RW, hfr⟩
  refine ⟨fun hlt => ?_, fun hge => ?_⟩
  · have hkn : k < n := by omega
    refine ⟨_, BW.cell rfl, _, rfl, _, rfl, fun b8 w8 n8 => ?_⟩
    have e8 := n8.num; have z8 := n8.size
    have B8 : Blk w8 b8 (lcells (quiet zeros8, nilv)) 142 := n8.blk
    refine append_own cx_ok (x := ⟨1, 24, false, [.slice none 0 0], .slice 142⟩) rfl rfl rfl (by decide) (Row.tr RW n8.tr (by simp)) b8 0 1 1 (lcells (quiet zeros8, nilv)) rfl B8.all rfl (by omega) (by decide) ?_
    intro v5 w5 hr5 t5 hat5 _
    have z5 := t5.size
    have hv5 : ∀ b, v5.ownBlock = some b → p < b := fun b hb => by
      rcases hat5 with e | e
      · exact hfr b (e ▸ hb)
      · rw [e] at hb; have := Option.some.inj hb; omega
    have B5 := (BW.ext n8.tr).tr t5 (fun hm => by have := hfr p (by simpa using hm); omega)
    refine ⟨_, _, B5, by show 0 < 3; decide, Row.one hr5, fun w6 u6 => ?_⟩
    have z6 := u6.size
    have t85 : Tr lv.ownBlock.toList W w5 := n8.tr.trans t5 (fun _ h => by cases h) (fun _ h _ => h)
    have hlvf : ∀ b, lv.ownBlock = some b → w.heap.size ≤ b := fun b hb => by have := hfr b hb; omega
    have t05 : Tr [] w w5 := tW.trans t85 (fun _ h => h) (fun b hb hlt => by have := hlvf b (by simpa using hb); omega)
    have hrep : List.replicate (k + 1) (quiet zeros8, nilv) = List.replicate k (quiet zeros8, nilv) ++ [(quiet zeros8, nilv)] := by rw [List.replicate_succ']
    refine ⟨((k + 1 : Nat) : Int), by rw [w64 (by omega)]; omega, ?_⟩
    refine ⟨rfl, k + 1, ⟨rfl, rfl, rfl, rfl, trivial⟩, ⟨by omega, u6.ext t05 (by omega), by omega, v5, u6.blk, ?_, hv5⟩, by omega⟩
    rw [hrep, List.flatMap_append, List.flatMap_singleton]
    exact Row.tr hr5 u6.tr (fun b hb hm => by have := hv5 b hb; simp at hm; omega)
  · obtain rfl : k = n := by omega
    obtain ⟨rows, hrows⟩ : ∃ rows, rows = List.replicate k (quiet zeros8, nilv) := ⟨_, rfl⟩
    have hmem : ∀ r ∈ rows, r = (quiet zeros8, nilv) := fun r hr => by rw [hrows] at hr; exact List.eq_of_mem_replicate hr
    have hrl : rows.length = k := by rw [hrows, List.length_replicate]
    have hin : ∀ b, b ∈ rfoot p rows lv nilv → b = p ∨ lv.ownBlock = some b := fun b hb => by
      have hb := fn_mem.1 hb
      simp only [ro, List.mem_cons, List.mem_map] at hb
      rcases hb with hb | hb | hb | ⟨r, hr, hb⟩
      · exact .inl (Option.some.inj hb)
      · exact .inr hb.symm
      · simp [nilv, Value.ownBlock] at hb
      · rw [hmem r hr] at hb; simp [nilv, Value.ownBlock] at hb
    have hge' : ∀ b ∈ rfoot p rows lv nilv, w.heap.size ≤ b := fun b hb => by
      rcases hin b hb with rfl | h
      · omega
      · have := hfr b h; omega
    have hnil : ((rows.map fun r => r.2.ownBlock).flatMap Option.toList) = [] := by
      rw [List.flatMap_eq_nil_iff]
      intro o ho
      obtain ⟨r, hr, rfl⟩ := List.mem_map.1 ho
      rw [hmem r hr]; rfl
    refine ⟨tW, p, rfoot p rows lv nilv, rfl, ⟨rows, lv, nilv, 0, ⟨BW, by rw [hrl, hrows]; exact RW, fun r hr => by rw [hmem r hr]; exact World.ownsRow_nil _ _ _ _, ⟨[], World.ownsRow_nil _ _ _ _⟩, fun r hr => by rw [hmem r hr]; exact quiet_ok zeros8_ok, ?_, fun b hb => by have := hge' b hb; omega, by omega⟩, by rw [hrows, List.map_replicate], Nat.le_refl _, fun l hl => ?_, rfl⟩, hge'⟩
    · have : rfoot p rows lv nilv = p :: (lv.ownBlock.toList ++ []) := by
        unfold rfoot ro
        rw [List.flatMap_cons, List.flatMap_cons, List.flatMap_cons, hnil]
        rfl
      rw [this, List.append_nil]
      cases hl : lv.ownBlock with
      | none => simp
      | some b => have := hfr b hl; simp; omega
    · rw [List.eq_of_mem_replicate hl]
      exact Nat.le_refl _

/-- What a call of a script leaves of the lines. -/
def opL (L : List Ln) (k a b : Int) (xs : List Int) : List Ln :=
  if k = 0 then (putL L a b).2 else if k = 1 then (putL L a b).2 else if k = 2 then L else if k = 3 then (flushL L a).2 else if k = 4 then fenceL L
  else if k = 5 then (evictL L a b).2 else if k = 6 then (healL L a xs).2 else if k = 7 then (rotL L a xs b).2 else L

theorem evictL_len (L : List Ln) (n k : Int) : (evictL L n k).2.length = L.length := by
  unfold evictL
  repeat' split
  all_goals simp
theorem healL_len (L : List Ln) (n : Int) (xs : List Int) : (healL L n xs).2.length = L.length := by
  unfold healL
  repeat' split
  all_goals simp
theorem rotL_len (L : List Ln) (n : Int) (xs : List Int) (c : Int) : (rotL L n xs c).2.length = L.length := by
  unfold rotL
  repeat' split
  all_goals simp

theorem opL_len (L : List Ln) (k a b : Int) (xs : List Int) : (opL L k a b xs).length = L.length := by
  unfold opL
  repeat' split
  all_goals first | exact putL_len _ _ _ | exact flushL_len _ _ | exact fenceL_len _ | exact evictL_len _ _ _ | exact healL_len _ _ _ | exact rotL_len _ _ _ _ | rfl

theorem Sd.set {L : List Ln} (h : Sd L) {i : Nat} {l : Ln} (hl : rotten l → l.pend = []) : Sd (L.set i l) := fun x hx => by
  rcases List.mem_or_eq_of_mem_set hx with hx | rfl
  · exact h x hx
  · exact hl

theorem Sd.settle {l : Ln} (h : rotten l → l.pend = []) (k : Nat) : rotten (l.settle k) → (l.settle k).pend = [] := by
  unfold Ln.settle
  split
  · exact h
  · intro hr
    unfold rotten at hr
    rw [chk_enc] at hr
    exact absurd hr (by decide)

theorem Sd.put {L : List Ln} (h : Sd L) (a v : Int) : Sd (putL L a v).2 := by
  unfold putL
  split
  · exact h
  · split
    · exact h
    · split
      · exact h
      · rename_i hr
        exact h.set fun hr' => absurd hr' hr
theorem Sd.flush {L : List Ln} (h : Sd L) (n : Int) : Sd (flushL L n).2 := by
  unfold flushL
  split
  · exact h
  · rename_i hi
    have hi : inB L n := Classical.not_not.1 hi
    have hlt : n.toNat < L.length := by have := hi.1; have := hi.2; omega
    exact h.set fun hr => (h (lnAt L n.toNat) (lnAt_mem hlt) hr : (lnAt L n.toNat).pend = [])
theorem Sd.fence {L : List Ln} (h : Sd L) : Sd (fenceL L) := fun l hl => by
  obtain ⟨l0, h0, rfl⟩ := List.mem_map.1 hl
  exact Sd.settle (h l0 h0) _

theorem Sd.op {L : List Ln} (h : Sd L) (k a b : Int) (xs : List Int) : Sd (opL L k a b xs) := by
  have hin : ∀ n, inB L n → n.toNat < L.length := fun n hi => by have := hi.1; have := hi.2; omega
  have he : Sd (evictL L a b).2 := by
    unfold evictL
    split
    · exact h
    · rename_i hi
      split
      · exact h
      · exact h.set (Sd.settle (h _ (lnAt_mem (hin _ (Classical.not_not.1 hi)))) _)
  have hh : Sd (healL L a xs).2 := by
    unfold healL
    split
    · exact h
    · split
      · exact h
      · exact h.set fun hr => rfl
  have hr : Sd (rotL L a xs b).2 := by
    unfold rotL
    split
    · exact h
    · split
      · exact h
      · split
        · exact h
        · rename_i hp
          exact h.set fun _ => Classical.not_not.1 hp
  unfold opL
  repeat' split
  all_goals first | exact h | exact h.put _ _ | exact h.flush _ | exact h.fence | exact he | exact hh | exact hr

theorem LOk.rep (n : Nat) : Sd (List.replicate n (quiet zeros8)) := fun l hl => by
  rw [List.eq_of_mem_replicate hl]
  exact fun _ => rfl

end Go.Proofs.YthepaakejpbppaaGreatDoor

/- The specification's memory: Do. -/
namespace Go.Proofs.YthepaakejpbppaaGreatDoor
open Go.E

/-- The cells of a call of a script. -/
def ocells (k a b : Int) (xs : List Int) (cv : Value) : List Value := .int .i64 k :: .int .i64 a :: .int .i64 b :: (i64s xs ++ [cv])

theorem ocells_len {xs : List Int} (h : xs.length = 8) (k a b : Int) (cv : Value) : (ocells k a b xs cv).length = 12 := by simp [ocells, i64s, h]
theorem ocells_one (k a b : Int) (xs : List Int) {cv : Value} (h : E.one cv = true) : (ocells k a b xs cv).all E.one = true := by simp [ocells, i64s, E.one]; exact h

theorem ocells_words {w : World} {g o : Nat} {k a b : Int} {xs : List Int} {cv : Value} (h : Cells w g o (ocells k a b xs cv)) : Cells w g (o + 3) (i64s xs) := fun j v hv => by
  have := h (3 + j) v (by
    rw [show 3 + j = j + 1 + 1 + 1 by omega]
    simp only [ocells, List.getElem?_cons_succ]
    rw [List.getElem?_append_left (List.getElem?_eq_some_iff.1 hv).1]
    exact hv)
  rw [Nat.add_assoc]; exact this

def spanL (span : Nat) (k a : Int) : Nat := if k = 2 then a.toNat else span

section
variable {w : World} {p : Nat} {L : List Ln} {span N : Nat} {F : List Nat}

set_option maxHeartbeats 1000000 in
theorem Do04_calls (h : RMem w p L span N F) (hsd : Sd L) (hN : N < 549755813888) (k a b : Int) (xs : List Int) (cv : Value) (h8 : xs.length = 8) (hk : k < 8) (ha : inI64 a) :
    Calls cx.P 50 #[.pointer (some ⟨p, 0, none⟩), .agg (ocells k a b xs cv).toArray] w
      (Ret fun _ w' => ∃ F', RMem w' p (opL L k a b xs) (spanL span k a) (N + 1) F' ∧ Step w w' F F') := by
  refine calls_body cx_ok (args := [.pointer (some ⟨p, 0, none⟩), .agg (ocells k a b xs cv).toArray]) Tryz.func50 rfl 83 rfl rfl [.tmp 4, .tmp 5] rfl ?_
  intro b3 w1 n1
  have e1 := n1.num; have z1 := n1.size
  have B : Blk w1 b3 (ocells k a b xs cv) 95 := n1.blk
  have h1 := h.ext n1.tr
  have fin : ∀ {w2 : World} {L' : List Ln}, (∃ F', RMem w2 p L' span (N + 1) F' ∧ Step w1 w2 F F') → k ≠ 2 → opL L k a b xs = L' → ∃ F', RMem w2 p (opL L k a b xs) (spanL span k a) (N + 1) F' ∧ Step w w2 F F' := by
    rintro w2 L' ⟨F', hm, hs⟩ hk2 he
    exact ⟨F', by rw [he]; unfold spanL; rw [if_neg hk2]; exact hm, Step.of_ext n1.tr hs⟩
  refine ⟨_, B.cell rfl, ?_⟩
  refine ⟨fun k0 => ?_, fun k0 => ?_⟩
  · refine ⟨_, B.cell rfl, _, B.cell rfl, ?_⟩
    refine call (Store04_gen h1 hN a b ha) ?_
    rintro _ w2 ⟨rfl, hF⟩
    exact fin hF (by omega) (by unfold opL; rw [if_pos k0])
  refine ⟨fun k1 => ?_, fun k1 => ?_⟩
  · refine ⟨_, B.cell rfl, _, B.cell rfl, ?_⟩
    refine call (Publish04_gen h1 hN a b ha) ?_
    rintro _ w2 ⟨rfl, hF⟩
    exact fin hF (by omega) (by unfold opL; rw [if_neg k0, if_pos k1])
  refine ⟨fun k2 => ?_, fun k2 => ?_⟩
  · refine ⟨_, B.cell rfl, ?_⟩
    refine call (Set04_gen h1 a) ?_
    rintro _ w2 ⟨hF, hs⟩
    refine ⟨F, ?_, Step.of_ext n1.tr hs⟩
    unfold opL spanL
    rw [if_neg k0, if_neg k1, if_pos k2, if_pos k2]
    exact hF.mono (by omega)
  refine ⟨fun k3 => ?_, fun k3 => ?_⟩
  · refine ⟨_, B.cell rfl, ?_⟩
    refine call (Flush04_gen h1 hN a) ?_
    rintro _ w2 ⟨rfl, hF⟩
    exact fin hF (by omega) (by unfold opL; rw [if_neg k0, if_neg k1, if_neg k2, if_pos k3])
  refine ⟨fun k4 => ?_, fun k4 => ?_⟩
  · refine call (Fence04_gen h1 hsd hN) ?_
    rintro _ w2 hF
    exact fin hF (by omega) (by unfold opL; rw [if_neg k0, if_neg k1, if_neg k2, if_neg k3, if_pos k4])
  refine ⟨fun k5 => ?_, fun k5 => ?_⟩
  · refine ⟨_, B.cell rfl, _, B.cell rfl, ?_⟩
    refine call (Evict04_gen h1 hsd hN a b) ?_
    rintro _ w2 ⟨rfl, hF⟩
    exact fin hF (by omega) (by unfold opL; rw [if_neg k0, if_neg k1, if_neg k2, if_neg k3, if_neg k4, if_pos k5])
  refine ⟨fun k6 => ?_, fun k6 => ?_⟩
  · refine ⟨_, B.cell rfl, _, ocells_words B.all, by rw [i64s_len]; exact h8, ?_⟩
    refine call (Heal04_gen h1 hN a xs h8) ?_
    rintro _ w2 ⟨rfl, hF⟩
    exact fin hF (by omega) (by unfold opL; rw [if_neg k0, if_neg k1, if_neg k2, if_neg k3, if_neg k4, if_neg k5, if_pos k6])
  refine ⟨fun k7 => ?_, fun k7 => ?_⟩
  · refine ⟨_, B.cell rfl, _, ocells_words B.all, by rw [i64s_len]; exact h8, _, B.cell rfl, ?_⟩
    refine call (Rot04_gen h1 hN a xs h8 b) ?_
    rintro _ w2 ⟨rfl, hF⟩
    exact fin hF (by omega) (by unfold opL; rw [if_neg k0, if_neg k1, if_neg k2, if_neg k3, if_neg k4, if_neg k5, if_neg k6, if_pos k7])
  refine ⟨fun k8 => absurd hk (by omega), fun k8 => ⟨fun k9 => absurd hk (by omega), fun k9 => ?_⟩⟩
  refine ⟨_, B.cell rfl, ?_⟩
  refine call (Load04_gen h1 a ha) ?_
  rintro _ w2 ⟨rfl, t2⟩
  refine fin (h1.same t2) (by omega) (by unfold opL; rw [if_neg k0, if_neg k1, if_neg k2, if_neg k3, if_neg k4, if_neg k5, if_neg k6, if_neg k7])

end

end Go.Proofs.YthepaakejpbppaaGreatDoor

/- Pointers and headers, of the program and of the specification. -/
namespace Go.Proofs.YthepaakejpbppaaGreatDoor
open Go.E

/-- The layout of a memory of n lines. -/
def chunksN (n : Nat) : Nat := n / 16 - 1
def lcs (n : Nat) : List Value := [.int .i64 (n : Nat), .int .i64 2, .int .i64 8, .int .i64 10, .int .i64 4, .int .i64 14, .int .i64 16, .int .i64 (chunksN n : Nat)]
def InL (n : Nat) : Prop := 64 ≤ n ∧ n ≤ 103
theorem InL.chunks {n : Nat} (h : InL n) : 3 ≤ chunksN n ∧ chunksN n ≤ 5 ∧ 16 + 16 * chunksN n ≤ n := by
  unfold InL at h; unfold chunksN; omega

def chunkP (n : Nat) (line : Int) : Int := if line < 16 ∨ 16 + 16 * (chunksN n : Int) ≤ line then -1 else (line - 16) / 16
def linesP (c : Int) : Int := if c < 0 ∨ 4 < c then 0 else ((2 ^ c.toNat : Nat) : Int)
def formedP (h : Int) : Bool := decide (0 ≤ h ∧ h < 134217728 ∧ h / 16 % 8 ≤ 4)
def kindP (h : Int) : Int := if formedP h then h % 16 else 0
def classP (h : Int) : Int := if formedP h then h / 16 % 8 else 0
def genP (h : Int) : Int := if formedP h then h / 128 else 0
def lineP (p : Int) : Int := if rightP p then p % 4096 else 0
def pgenP (p : Int) : Int := if rightP p then p / 4096 else 0

theorem Chunk_calls (n : Nat) (hn : InL n) (line : Int) (_hl : inI64 line) (w : World) :
    Calls cx.P 62 #[.agg (lcs n).toArray, .int .i64 line] w (Ret fun v w' => v = .int .i64 (chunkP n line) ∧ Tr [] w w') := by
  have hc := hn.chunks
  refine calls_body cx_ok (args := [.agg (lcs n).toArray, .int .i64 line]) Tryz.func62 rfl 24 rfl rfl [.tmp 4] rfl ?_
  intro b w1 n1
  have B : Blk w1 b (lcs n) 28 := n1.blk
  unfold chunkP
  refine ⟨_, B.cell rfl, fun h0 => ?_, fun h0 => ?_⟩
  · rw [if_pos (.inl h0)]
    exact ⟨rfl, n1.tr⟩
  · refine ⟨_, B.cell rfl, _, B.cell rfl, (16 * (chunksN n : Int)), by rw [w64 (by omega)], (16 + 16 * (chunksN n : Int)), by rw [w64 (by omega)], fun h1 => ?_, fun h1 => ?_⟩
    · rw [if_pos (.inr (by omega))]
      exact ⟨rfl, n1.tr⟩
    · rw [if_neg (by omega)]
      refine ⟨_, B.cell rfl, (line - 16), by rw [w64 (by omega)], ((line - 16) / 16), by decide, ?_, rfl, n1.tr⟩
      obtain ⟨q, hq⟩ := Int.eq_ofNat_of_zero_le (show 0 ≤ line - 16 by omega)
      rw [hq, IntWalk.i64_quo _ _ (by omega)]

theorem Chunk07_calls (n : Nat) (hn : InL n) (line : Int) (_hl : inI64 line) (w : World) :
    Calls cx.P 64 #[.agg (lcs n).toArray, .int .i64 line] w (Ret fun v w' => v = .int .i64 (chunkP n line) ∧ Tr [] w w') := by
  have hc := hn.chunks
  refine calls_body cx_ok (args := [.agg (lcs n).toArray, .int .i64 line]) Tryz.func64 rfl 24 rfl rfl [.tmp 4] rfl ?_
  intro b w1 n1
  have B : Blk w1 b (lcs n) 28 := n1.blk
  unfold chunkP
  refine ⟨_, B.cell rfl, fun h0 => ?_, fun h0 => ?_⟩
  · rw [if_pos (.inl h0)]
    exact ⟨rfl, n1.tr⟩
  · refine ⟨_, B.cell rfl, _, B.cell rfl, (16 * (chunksN n : Int)), by rw [w64 (by omega)], (16 + 16 * (chunksN n : Int)), by rw [w64 (by omega)], fun h1 => ?_, fun h1 => ?_⟩
    · rw [if_pos (.inr (by omega))]
      exact ⟨rfl, n1.tr⟩
    · rw [if_neg (by omega)]
      refine ⟨_, B.cell rfl, (line - 16), by rw [w64 (by omega)], ((line - 16) / 16), by decide, ?_, rfl, n1.tr⟩
      obtain ⟨q, hq⟩ := Int.eq_ofNat_of_zero_le (show 0 ≤ line - 16 by omega)
      rw [hq, IntWalk.i64_quo _ _ (by omega)]

theorem linesP_nat {c : Int} (h0 : ¬ c < 0) (h1 : ¬ 4 < c) : linesP c = ((2 ^ c.toNat : Nat) : Int) ∧ 2 ^ c.toNat ≤ 16 ∧ 1 ≤ 2 ^ c.toNat := by
  refine ⟨by unfold linesP; rw [if_neg (by omega)], ?_, Nat.two_pow_pos _⟩
  exact Nat.le_trans (Nat.pow_le_pow_right (by decide) (show c.toNat ≤ 4 by omega)) (by decide)

theorem Lines_calls (c : Int) (w : World) : Calls cx.P 63 #[.int .i64 c] w (Ret fun v w' => v = .int .i64 (linesP c) ∧ w = w') := by
  refine calls_body cx_ok (args := [.int .i64 c]) Tryz.func63 rfl 11 rfl rfl [.tmp 2] rfl ?_
  refine ⟨fun h0 => ?_, fun h0 => ⟨fun h1 => ?_, fun h1 => ?_⟩⟩
  · exact ⟨by unfold linesP; rw [if_pos (.inl h0)]; rfl, rfl⟩
  · exact ⟨by unfold linesP; rw [if_pos (.inr h1)]; rfl, rfl⟩
  · obtain ⟨e1, e2, e3⟩ := linesP_nat h0 h1
    obtain ⟨q, hq⟩ := Int.eq_ofNat_of_zero_le (show 0 ≤ c by omega)
    subst hq
    refine ⟨_, by omega, shl_nat 1 q (by simp at e2; omega) (by omega), ?_⟩
    exact ⟨by rw [e1]; simp, rfl⟩

theorem power_calls (k : Nat) (hk : k ≤ 40) (w : World) : Calls cx.P 107 #[.int .i64 (k : Nat)] w (Ret fun v w' => v = .int .i64 ((2 ^ k : Nat) : Int) ∧ w = w') := by
  refine calls_body cx_ok (args := [.int .i64 (k : Nat)]) Tryz.func107 rfl 13 rfl rfl [.tmp 2] rfl ?_
  refine loop_rule cx_ok (fun j W => j ≤ k ∧ w = W) (fun j : Nat => [(0, .int .i64 k), (3, .int .i64 ((2 ^ j : Nat) : Int)), (4, .int .i64 j)]) (fun j => k - j) 0 ⟨rfl, rfl, rfl, trivial⟩ ⟨by omega, rfl⟩ ?_
  rintro j _ ⟨hj, rfl⟩
  refine ⟨fun hlt => ?_, fun hge => ?_⟩
  · have hb : 2 ^ j ≤ 2 ^ 40 := Nat.pow_le_pow_right (by decide) (by omega)
    have hs : 2 ^ (j + 1) = 2 ^ j * 2 := Nat.pow_succ ..
    refine ⟨((2 ^ (j + 1) : Nat) : Int), by rw [w64 (by omega)]; omega, ((j + 1 : Nat) : Int), by rw [w64 (by omega)]; omega, ?_⟩
    exact ⟨rfl, j + 1, ⟨rfl, rfl, rfl, trivial⟩, ⟨by omega, rfl⟩, by omega⟩
  · obtain rfl : j = k := by omega
    exact ⟨rfl, rfl⟩

theorem Lines07_calls (c : Int) (w : World) : Calls cx.P 66 #[.int .i64 c] w (Ret fun v w' => v = .int .i64 (linesP c) ∧ w = w') := by
  refine calls_body cx_ok (args := [.int .i64 c]) Tryz.func66 rfl 11 rfl rfl [.tmp 2] rfl ?_
  refine ⟨fun h0 => ?_, fun h0 => ⟨fun h1 => ?_, fun h1 => ?_⟩⟩
  · exact ⟨by unfold linesP; rw [if_pos (.inl h0)]; rfl, rfl⟩
  · exact ⟨by unfold linesP; rw [if_pos (.inr h1)]; rfl, rfl⟩
  · obtain ⟨e1, e2, e3⟩ := linesP_nat h0 h1
    obtain ⟨q, hq⟩ := Int.eq_ofNat_of_zero_le (show 0 ≤ c by omega)
    subst hq
    refine call (power_calls q (by omega) w) ?_
    rintro _ _ ⟨rfl, rfl⟩
    exact ⟨by rw [e1]; simp, rfl⟩

theorem word07_calls (x : Int) (w : World) : Calls cx.P 117 #[.int .i64 x] w (Ret fun v w' => v = .bool (decide (0 ≤ x ∧ x ≤ 1099511627775)) ∧ w = w') := by
  refine calls_body cx_ok (args := [.int .i64 x]) Tryz.func117 rfl 9 rfl rfl [.tmp 2] rfl ?_
  refine ⟨fun h0 => ⟨fun h1 => ?_, fun h1 => ?_⟩, fun h0 => ?_⟩
  · exact ⟨by simp [h0, h1], rfl⟩
  · exact ⟨by simp [h1], rfl⟩
  · exact ⟨by simp [h0], rfl⟩

theorem hdr_part {w : World} (hg : Gl w) (i a b : Nat) (h : (i = 0 ∧ a = 0 ∧ b = 4) ∨ (i = 1 ∧ a = 4 ∧ b = 3) ∨ (i = 2 ∧ a = 7 ∧ b = 20)) : Cells w 1 (0 + i * 2) [.int .i64 (a : Nat), .int .i64 (b : Nat)] := fun j v hv => by
  have := hg.hdr (2 * i + j) v (by
    rcases h with ⟨rfl, rfl, rfl⟩ | ⟨rfl, rfl, rfl⟩ | ⟨rfl, rfl, rfl⟩ <;> rcases j with _ | _ | j <;> simp_all)
  rw [show 0 + i * 2 + j = 0 + (2 * i + j) by omega]
  exact this
theorem ptr_part {w : World} (hg : Gl w) (i a b : Nat) (h : (i = 0 ∧ a = 0 ∧ b = 12) ∨ (i = 1 ∧ a = 12 ∧ b = 20)) : Cells w 0 (0 + i * 2) [.int .i64 (a : Nat), .int .i64 (b : Nat)] := fun j v hv => by
  have := hg.ptrs (2 * i + j) v (by
    rcases h with ⟨rfl, rfl, rfl⟩ | ⟨rfl, rfl, rfl⟩ <;> rcases j with _ | _ | j <;> simp_all)
  rw [show 0 + i * 2 + j = 0 + (2 * i + j) by omega]
  exact this

theorem part_int (q a b : Nat) (ha : a = 0 ∧ b = 4 ∨ a = 4 ∧ b = 3 ∨ a = 7 ∧ b = 20 ∨ a = 0 ∧ b = 12 ∨ a = 12 ∧ b = 20) : (a = 0 ∧ b = 4 ∧ part q a b = q % 16) ∨ (a = 4 ∧ b = 3 ∧ part q a b = q / 16 % 8) ∨ (a = 7 ∧ b = 20 ∧ part q a b = q / 128 % 1048576) ∨ (a = 0 ∧ b = 12 ∧ part q a b = q % 4096) ∨ (a = 12 ∧ b = 20 ∧ part q a b = q / 4096 % 1048576) := by
  unfold part
  rcases ha with ⟨rfl, rfl⟩ | ⟨rfl, rfl⟩ | ⟨rfl, rfl⟩ | ⟨rfl, rfl⟩ | ⟨rfl, rfl⟩ <;> simp

theorem Formed_calls (h : Int) (w : World) (hg : Gl w) : Calls cx.P 138 #[.int .i64 h] w (Ret fun v w' => v = .bool (formedP h) ∧ Tr [] w w') := by
  refine calls_body cx_ok (args := [.int .i64 h]) Tryz.func138 rfl 18 rfl rfl [.tmp 2] rfl ?_
  refine draw_rule cx_ok [] (Plan.takes [0] (.one true 1 (Plan.takes [2, 3, 4, 5, 6, 7, 8, 10, 11] (.one true 9 (.one true 12 (Plan.takes [13, 14, 15] .done)))))) (by kernel_rfl) ?_
  intro w1 d
  refine ⟨?_, trivial⟩
  refine call (pointer_word_calls h w1) ?_
  rintro v _ ⟨hv, rfl⟩
  refine ⟨d.tr, ?_⟩
  by_cases hw : 0 ≤ h ∧ h ≤ 1099511627775
  · rw [decide_eq_true hw] at hv
    subst hv
    obtain ⟨q, rfl⟩ := Int.eq_ofNat_of_zero_le hw.1
    refine ⟨_, by decide, shr_nat .i64 q 27 (by decide), ?_⟩
    refine ⟨fun h1 => ?_, fun h1 => ?_⟩
    · refine ⟨1, rfl, by decide, _, fun w' t => (hdr_part hg 1 4 3 (by simp)).tr t (by simp), rfl, ?_⟩
      refine ⟨?_, trivial⟩
      refine call (of_calls q w1) ?_
      rintro _ w2 ⟨t2, b, rfl, hb⟩
      refine ⟨d.tr.ext t2, ?_⟩
      refine ⟨?_, trivial⟩
      refine call (of1_calls q 4 3 b w2 hb (by omega) (by decide) (by decide)) ?_
      rintro _ w3 ⟨rfl, t3⟩
      refine ⟨(d.tr.ext t2).ext t3, ?_⟩
      have hp : part q 4 3 = q / 16 % 8 := by unfold part; simp
      rw [hp]
      refine ⟨fun h2 => ?_, fun h2 => ?_⟩
      · exact ⟨by simp only [formedP]; rw [decide_eq_true (by omega)]; rfl, (d.tr.ext t2).ext t3⟩
      · exact ⟨by simp only [formedP]; rw [decide_eq_false (by omega)]; rfl, (d.tr.ext t2).ext t3⟩
    · exact ⟨⟨d.tr, ⟨⟨d.tr, by simp only [formedP]; rw [decide_eq_false (by omega)]; rfl, d.tr⟩, trivial⟩⟩, trivial⟩
  · rw [decide_eq_false hw] at hv
    subst hv
    exact ⟨⟨d.tr, ⟨⟨d.tr, by simp only [formedP]; rw [decide_eq_false (by omega)]; rfl, d.tr⟩, trivial⟩⟩, trivial⟩

theorem hdr_calls (h : Int) (i a b : Nat) (hi : (i = 0 ∧ a = 0 ∧ b = 4) ∨ (i = 1 ∧ a = 4 ∧ b = 3) ∨ (i = 2 ∧ a = 7 ∧ b = 20)) (w : World) (hg : Gl w) :
    Calls cx.P 140 #[.int .i64 h, .int .i64 (i : Nat)] w (Ret fun v w' => v = .int .i64 (if formedP h then (part h.toNat a b : Int) else 0) ∧ Tr [] w w') := by
  refine calls_body cx_ok (args := [.int .i64 h, .int .i64 (i : Nat)]) Tryz.func140 rfl 14 rfl rfl [.tmp 4] rfl ?_
  refine call (Formed_calls h w hg) ?_
  rintro _ w1 ⟨rfl, t1⟩
  cases hf : formedP h with
  | false => exact ⟨rfl, t1⟩
  | true =>
  have hb := of_decide_eq_true hf
  obtain ⟨q, rfl⟩ := Int.eq_ofNat_of_zero_le hb.1
  refine draw_rule cx_ok [] (Plan.takes [0, 2, 3, 4] (.one true 1 (.one true 5 (Plan.takes [6] .done)))) (by kernel_rfl) ?_
  intro w2 d
  refine ⟨i, rfl, by show i < 3; omega, _, fun w' t => (hdr_part (hg.ext t1) i a b hi).tr t (by simp), rfl, ?_⟩
  refine ⟨?_, trivial⟩
  refine call (of_calls q w2) ?_
  rintro _ w3 ⟨t3, c, rfl, hc⟩
  refine ⟨d.tr.ext t3, ?_⟩
  refine ⟨?_, trivial⟩
  refine call (of1_calls q a b c w3 hc (by omega) (by omega) (by omega)) ?_
  rintro _ w4 ⟨rfl, t4⟩
  exact ⟨(d.tr.ext t3).ext t4, rfl, ((t1.ext d.tr).ext t3).ext t4⟩

theorem Kind_calls (h : Int) (w : World) (hg : Gl w) : Calls cx.P 109 #[.int .i64 h] w (Ret fun v w' => v = .int .i64 (kindP h) ∧ Tr [] w w') := by
  refine calls_body cx_ok (args := [.int .i64 h]) Tryz.func109 rfl 5 rfl rfl [.tmp 2] rfl ?_
  refine call (hdr_calls h 0 0 4 (by simp) w hg) ?_
  rintro _ w1 ⟨rfl, t1⟩
  refine ⟨?_, t1⟩
  unfold kindP
  cases hf : formedP h with
  | false => rfl
  | true =>
    have hb := of_decide_eq_true hf
    obtain ⟨q, rfl⟩ := Int.eq_ofNat_of_zero_le hb.1
    unfold part
    simp

theorem Class_calls (h : Int) (w : World) (hg : Gl w) : Calls cx.P 139 #[.int .i64 h] w (Ret fun v w' => v = .int .i64 (classP h) ∧ Tr [] w w') := by
  refine calls_body cx_ok (args := [.int .i64 h]) Tryz.func139 rfl 5 rfl rfl [.tmp 2] rfl ?_
  refine call (hdr_calls h 1 4 3 (by simp) w hg) ?_
  rintro _ w1 ⟨rfl, t1⟩
  refine ⟨?_, t1⟩
  unfold classP
  cases hf : formedP h with
  | false => rfl
  | true =>
    have hb := of_decide_eq_true hf
    obtain ⟨q, rfl⟩ := Int.eq_ofNat_of_zero_le hb.1
    unfold part
    simp

theorem Generation_calls (h : Int) (w : World) (hg : Gl w) : Calls cx.P 110 #[.int .i64 h] w (Ret fun v w' => v = .int .i64 (genP h) ∧ Tr [] w w') := by
  refine calls_body cx_ok (args := [.int .i64 h]) Tryz.func110 rfl 5 rfl rfl [.tmp 2] rfl ?_
  refine call (hdr_calls h 2 7 20 (by simp) w hg) ?_
  rintro _ w1 ⟨rfl, t1⟩
  refine ⟨?_, t1⟩
  unfold genP
  cases hf : formedP h with
  | false => rfl
  | true =>
    have hb := of_decide_eq_true hf
    obtain ⟨q, rfl⟩ := Int.eq_ofNat_of_zero_le hb.1
    have : part q 7 20 = q / 128 := by unfold part; simp; omega
    show pack [.int .i64 ((part q 7 20 : Nat) : Int)] = .int .i64 ((q : Int) / 128)
    rw [this]
    rfl

theorem Line_calls (p : Int) (w : World) (hg : Gl w) : Calls cx.P 71 #[.int .i64 p] w (Ret fun v w' => v = .int .i64 (lineP p) ∧ Tr [] w w') := by
  refine calls_body cx_ok (args := [.int .i64 p]) Tryz.func71 rfl 11 rfl rfl [.tmp 2] rfl ?_
  refine call (Right_calls p w hg) ?_
  rintro _ w1 ⟨rfl, t1⟩
  unfold lineP
  cases hf : rightP p with
  | false => exact ⟨rfl, t1⟩
  | true =>
  have hb := of_decide_eq_true hf
  obtain ⟨q, rfl⟩ := Int.eq_ofNat_of_zero_le (show 0 ≤ p by omega)
  refine draw_rule cx_ok [] (Plan.takes [0, 2, 3] (.one true 1 (.one true 4 (Plan.takes [5] .done)))) (by kernel_rfl) ?_
  intro w2 d
  refine ⟨0, rfl, by decide, _, fun w' t => (ptr_part (hg.ext t1) 0 0 12 (by simp)).tr t (by simp), rfl, ?_⟩
  refine ⟨?_, trivial⟩
  refine call (of_calls q w2) ?_
  rintro _ w3 ⟨t3, c, rfl, hc⟩
  refine ⟨d.tr.ext t3, ?_⟩
  refine ⟨?_, trivial⟩
  refine call (of1_calls q 0 12 c w3 hc (by omega) (by omega) (by omega)) ?_
  rintro _ w4 ⟨rfl, t4⟩
  refine ⟨(d.tr.ext t3).ext t4, ?_, ((t1.ext d.tr).ext t3).ext t4⟩
  have : part q 0 12 = q % 4096 := by unfold part; simp
  rw [this]
  rfl

theorem PGen_calls (p : Int) (w : World) (hg : Gl w) : Calls cx.P 72 #[.int .i64 p] w (Ret fun v w' => v = .int .i64 (pgenP p) ∧ Tr [] w w') := by
  refine calls_body cx_ok (args := [.int .i64 p]) Tryz.func72 rfl 11 rfl rfl [.tmp 2] rfl ?_
  refine call (Right_calls p w hg) ?_
  rintro _ w1 ⟨rfl, t1⟩
  unfold pgenP
  cases hf : rightP p with
  | false => exact ⟨rfl, t1⟩
  | true =>
  have hb := of_decide_eq_true hf
  obtain ⟨q, rfl⟩ := Int.eq_ofNat_of_zero_le (show 0 ≤ p by omega)
  refine draw_rule cx_ok [] (Plan.takes [0, 2, 3] (.one true 1 (.one true 4 (Plan.takes [5] .done)))) (by kernel_rfl) ?_
  intro w2 d
  refine ⟨1, rfl, by decide, _, fun w' t => (ptr_part (hg.ext t1) 1 12 20 (by simp)).tr t (by simp), rfl, ?_⟩
  refine ⟨?_, trivial⟩
  refine call (of_calls q w2) ?_
  rintro _ w3 ⟨t3, c, rfl, hc⟩
  refine ⟨d.tr.ext t3, ?_⟩
  refine ⟨?_, trivial⟩
  refine call (of1_calls q 12 20 c w3 hc (by omega) (by omega) (by omega)) ?_
  rintro _ w4 ⟨rfl, t4⟩
  refine ⟨(d.tr.ext t3).ext t4, ?_, ((t1.ext d.tr).ext t3).ext t4⟩
  have : part q 12 20 = q / 4096 := by unfold part; simp; omega
  rw [this]
  rfl

/-- The specification's. -/
theorem Right07_calls (p : Int) (w : World) : Calls cx.P 73 #[.int .i64 p] w (Ret fun v w' => v = .bool (rightP p) ∧ w = w') := by
  refine calls_body cx_ok (args := [.int .i64 p]) Tryz.func73 rfl 22 rfl rfl [.tmp 2] rfl ?_
  refine ⟨fun h0 => ⟨by simp [rightP, h0], rfl⟩, fun h0 => ?_⟩
  refine call (word07_calls p w) ?_
  rintro v _ ⟨hv, rfl⟩
  by_cases hw : 0 ≤ p ∧ p ≤ 1099511627775
  · rw [decide_eq_true hw] at hv
    subst hv
    have e1 : p.tmod 4096 = p % 4096 := IntWalk.rem_in _ _ hw.1
    have e2 : IntKind.i64.wrap (p.tdiv 4096) = p / 4096 := IntWalk.i64_quo _ _ (by omega)
    refine ⟨_, by decide, e1, fun h1 => ?_, fun h1 => ?_⟩
    · refine ⟨_, by decide, e2, fun h2 => ?_, fun h2 => ?_⟩
      · refine ⟨_, by decide, e2, fun h3 => ?_, fun h3 => ?_⟩
        · exact ⟨by simp only [rightP]; rw [decide_eq_true (by omega)]; rfl, rfl⟩
        · exact ⟨by simp only [rightP]; rw [decide_eq_false (by omega)]; rfl, rfl⟩
      · exact ⟨by simp only [rightP]; rw [decide_eq_false (by omega)]; rfl, rfl⟩
    · exact ⟨by simp only [rightP]; rw [decide_eq_false (by omega)]; rfl, rfl⟩
  · rw [decide_eq_false hw] at hv
    subst hv
    exact ⟨by simp only [rightP]; rw [decide_eq_false (by omega)]; rfl, rfl⟩

theorem Line07_calls (p : Int) (w : World) : Calls cx.P 74 #[.int .i64 p] w (Ret fun v w' => v = .int .i64 (lineP p) ∧ w = w') := by
  refine calls_body cx_ok (args := [.int .i64 p]) Tryz.func74 rfl 10 rfl rfl [.tmp 2] rfl ?_
  refine call (Right07_calls p w) ?_
  rintro _ _ ⟨rfl, rfl⟩
  unfold lineP
  cases hf : rightP p with
  | false => exact ⟨rfl, rfl⟩
  | true =>
  have hb := of_decide_eq_true hf
  refine ⟨_, by decide, IntWalk.rem_in _ _ (by omega), ?_⟩
  exact ⟨rfl, rfl⟩

theorem PGen07_calls (p : Int) (w : World) : Calls cx.P 75 #[.int .i64 p] w (Ret fun v w' => v = .int .i64 (pgenP p) ∧ w = w') := by
  refine calls_body cx_ok (args := [.int .i64 p]) Tryz.func75 rfl 10 rfl rfl [.tmp 2] rfl ?_
  refine call (Right07_calls p w) ?_
  rintro _ _ ⟨rfl, rfl⟩
  unfold pgenP
  cases hf : rightP p with
  | false => exact ⟨rfl, rfl⟩
  | true =>
  have hb := of_decide_eq_true hf
  refine ⟨_, by decide, IntWalk.i64_quo _ _ (by omega), ?_⟩
  exact ⟨rfl, rfl⟩

theorem Formed07_calls (h : Int) (w : World) : Calls cx.P 141 #[.int .i64 h] w (Ret fun v w' => v = .bool (formedP h) ∧ w = w') := by
  refine calls_body cx_ok (args := [.int .i64 h]) Tryz.func141 rfl 16 rfl rfl [.tmp 2] rfl ?_
  refine call (word07_calls h w) ?_
  rintro v _ ⟨hv, rfl⟩
  by_cases hw : 0 ≤ h ∧ h ≤ 1099511627775
  · rw [decide_eq_true hw] at hv
    subst hv
    refine ⟨_, by decide, IntWalk.i64_quo _ _ (by omega), _, by decide, IntWalk.rem_in _ _ (by omega), fun h1 => ?_, fun h1 => ?_⟩
    · refine ⟨_, by decide, IntWalk.i64_quo _ _ (by omega), fun h2 => ?_, fun h2 => ?_⟩
      · exact ⟨by simp only [formedP]; rw [decide_eq_true (by omega)]; rfl, rfl⟩
      · exact ⟨by simp only [formedP]; rw [decide_eq_false (by omega)]; rfl, rfl⟩
    · exact ⟨by simp only [formedP]; rw [decide_eq_false (by omega)]; rfl, rfl⟩
  · rw [decide_eq_false hw] at hv
    subst hv
    exact ⟨by simp only [formedP]; rw [decide_eq_false (by omega)]; rfl, rfl⟩

theorem Kind07_calls (h : Int) (w : World) : Calls cx.P 112 #[.int .i64 h] w (Ret fun v w' => v = .int .i64 (kindP h) ∧ w = w') := by
  refine calls_body cx_ok (args := [.int .i64 h]) Tryz.func112 rfl 10 rfl rfl [.tmp 2] rfl ?_
  refine call (Formed07_calls h w) ?_
  rintro _ _ ⟨rfl, rfl⟩
  unfold kindP
  cases hf : formedP h with
  | false => exact ⟨rfl, rfl⟩
  | true =>
  have hb := of_decide_eq_true hf
  refine ⟨_, by decide, IntWalk.rem_in _ _ (by omega), ?_⟩
  exact ⟨rfl, rfl⟩

theorem Class07_calls (h : Int) (w : World) : Calls cx.P 142 #[.int .i64 h] w (Ret fun v w' => v = .int .i64 (classP h) ∧ w = w') := by
  refine calls_body cx_ok (args := [.int .i64 h]) Tryz.func142 rfl 11 rfl rfl [.tmp 2] rfl ?_
  refine call (Formed07_calls h w) ?_
  rintro _ _ ⟨rfl, rfl⟩
  unfold classP
  cases hf : formedP h with
  | false => exact ⟨rfl, rfl⟩
  | true =>
  have hb := of_decide_eq_true hf
  refine ⟨_, by decide, IntWalk.i64_quo _ _ (by omega), _, by decide, IntWalk.rem_in _ _ (by omega), ?_⟩
  exact ⟨rfl, rfl⟩

theorem Generation07_calls (h : Int) (w : World) : Calls cx.P 113 #[.int .i64 h] w (Ret fun v w' => v = .int .i64 (genP h) ∧ w = w') := by
  refine calls_body cx_ok (args := [.int .i64 h]) Tryz.func113 rfl 10 rfl rfl [.tmp 2] rfl ?_
  refine call (Formed07_calls h w) ?_
  rintro _ _ ⟨rfl, rfl⟩
  unfold genP
  cases hf : formedP h with
  | false => exact ⟨rfl, rfl⟩
  | true =>
  have hb := of_decide_eq_true hf
  refine ⟨_, by decide, IntWalk.i64_quo _ _ (by omega), ?_⟩
  exact ⟨rfl, rfl⟩

end Go.Proofs.YthepaakejpbppaaGreatDoor
