/- THE ROW AND THE CARD OF 'alumlaw13.IntentReadsAsSpecified', PROVED: for every durable content of at most 12 lines and every layout for which it is specified, the law's function returns true and leaves its arguments as they were; without conditions. -/
import Derived.Test.YtlfolinjajjgjaaDoorZR44
import Derived.Test.YtlfolinjajjgjaaDoorZR45
import Derived.OpenShut

/- Data that came in: integers, arrays and structs of integers, slices of such. -/
namespace Go.Proofs.YtlfolinjajjgjaaDoor
open Go.E Go.ChangeShapes Go.WideShapes Go.ChangeAt Go.RowKit

def inI64 (z : Int) : Prop := -9223372036854775808 ≤ z ∧ z ≤ 9223372036854775807
def I64c (cs : List Value) : Prop := ∀ v ∈ cs, ∃ z : Int, v = .int .i64 z ∧ inI64 z

theorem I64c.list : ∀ {cs : List Value}, I64c cs → ∃ xs : List Int, cs = i64s xs ∧ ∀ z ∈ xs, inI64 z
  | [], _ => ⟨[], rfl, by simp⟩
  | v :: r, h => by
    obtain ⟨z, rfl, hz⟩ := h v (by simp)
    obtain ⟨xs, rfl, hxs⟩ := I64c.list (cs := r) fun u hu => h u (by simp [hu])
    exact ⟨z :: xs, rfl, fun y hy => by
      rcases List.mem_cons.1 hy with rfl | hy
      · exact hz
      · exact hxs y hy⟩

theorem I64c.join {cs : List Value} {o m : Nat} (h1 : I64c ((cs.drop o).take m)) (h2 : I64c (cs.drop (o + m))) : I64c (cs.drop o) := fun v hv => by
  rw [← List.take_append_drop m (cs.drop o), List.drop_drop] at hv
  rcases List.mem_append.1 hv with hv | hv
  · exact h1 v hv
  · exact h2 v hv

section
variable {H : Type} {enc : TypeId × Value → H} {P : Program} {W : World} {sp : Nat → Bool} {held : Bool} {b0 : Nat}

theorem wf_i64 {z : Int} (h : (Lit.int .i64 z).wf = true) : inI64 z := by
  simp only [Lit.wf, Bool.and_eq_true, decide_eq_true_eq] at h
  have h1 : IntKind.i64.min = -9223372036854775808 := rfl
  have h2 : IntKind.i64.max = 9223372036854775807 := rfl
  rw [h1, h2] at h
  exact h

theorem trod_flat : ∀ (d t m : Nat), flatN P d t = some m → ∀ (fuel : Nat) (cs : List Value) (x : DataW H × List MemPlace), DataW.trod enc P W b0 sp held fuel t cs = some x → I64c cs ∧ cs.length = m
  | 0, _, _, h => by cases h
  | d + 1, t, m, h => by
    intro fuel cs x hx
    have ih := trod_flat d
    have hinfo := flatN_info h
    obtain ⟨i0, hi0, hs0⟩ := hinfo
    have hco : P.cellsOf t = m := by simp [Program.cellsOf, hi0, hs0]
    unfold flatN at h
    split at h
    · rename_i i hi hu
      obtain ⟨z, hcz, _, hwf⟩ := DataW.trod_int hu hx
      cases hb : Nat.beq i.size 1 with
      | false => simp [hb] at h
      | true =>
        simp [hb] at h
        subst hcz
        exact ⟨fun v hv => ⟨z, by simpa using hv, wf_i64 hwf⟩, by simp [← h]⟩
    · rename_i i n e hi hu
      obtain ⟨xs, f', _, _, hlen, hxl, hall⟩ := DataW.trod_array hu hx
      split at h
      · rename_i q hq
        cases hb : Nat.beq i.size (n * q) with
        | false => simp [hb] at h
        | true =>
          simp [hb] at h
          obtain ⟨j, hj, hjs⟩ := flatN_info hq
          have hce : P.cellsOf e = q := by simp [Program.cellsOf, hj, hjs]
          have key : ∀ (c s : Nat), s + c = n → I64c (cs.drop (s * q)) := by
            intro c
            induction c with
            | zero =>
              intro s hs v hv
              have : s = n := by omega
              rw [this, List.drop_of_length_le (by rw [hlen, hco, h]; exact Nat.le_refl _)] at hv
              cases hv
            | succ c ihc =>
              intro s hs
              have h1 := hall s (by omega)
              rw [List.getElem?_eq_getElem (by omega), hce] at h1
              refine I64c.join (m := q) (ih e q hq _ _ _ h1).1 ?_
              have := ihc (s + 1) (by omega)
              rw [Nat.add_mul, Nat.one_mul] at this
              exact this
          have := key n 0 (by omega)
          exact ⟨by simpa using this, by rw [hlen, hco]⟩
      · cases h
    · rename_i i fs hi hu
      obtain ⟨xs, f', _, _, hlen, hxl, hall⟩ := DataW.trod_struct hu hx
      split at h
      · rename_i q hq
        cases hb : (!P.stoodInHeld t && Nat.beq i.size q) with
        | false => simp [hb] at h
        | true =>
          simp [hb] at h
          have key : ∀ (gs : List Field) (o k : Nat), fs.toList.drop k = gs → flatFs (flatN P d) gs o = some q → I64c (cs.drop o) := by
            intro gs
            induction gs with
            | nil =>
              intro o k _ ho
              simp only [flatFs, Option.some.injEq] at ho
              intro v hv
              rw [List.drop_of_length_le (by omega)] at hv
              cases hv
            | cons g r ihg =>
              intro o k hk ho
              unfold flatFs at ho
              split at ho
              · rename_i m' hm
                cases hb2 : (g.name != "_" && Nat.beq g.offset o) with
                | false => simp [hb2] at ho
                | true =>
                  simp only [hb2, cond_true] at ho
                  simp only [Bool.and_eq_true] at hb2
                  have hof : g.offset = o := Nat.eq_of_beq_eq_true hb2.2
                  have hgk : fs[k]? = some g := by
                    rw [← Array.getElem?_toList]
                    have := congrArg (·[0]?) hk
                    simpa using this
                  have hkl : k < xs.length := by
                    have := (Array.getElem?_eq_some_iff.1 hgk).1
                    omega
                  have h1 := hall k g hgk
                  obtain ⟨j, hj, hjs⟩ := flatN_info hm
                  have hce : P.cellsOf g.type = m' := by simp [Program.cellsOf, hj, hjs]
                  rw [List.getElem?_eq_getElem hkl, hof, hce] at h1
                  refine I64c.join (m := m') (ih g.type m' hm _ _ _ h1).1 (ihg (o + m') (k + 1) ?_ ho)
                  rw [← List.drop_drop, hk]
                  rfl
              · cases ho
          have := key fs.toList 0 0 rfl hq
          exact ⟨by simpa using this, by rw [hlen, hco]⟩
      · cases h
    · cases h

/-- A slice of such that came in. -/
theorem open_rows {t e m d : Nat} (hu : P.underlying t = some (.slice e)) (hf : flatN P d e = some m) (hm : 0 < m) {v : Value} {dd : DataW H} {ps : List MemPlace} {r : Reach} {b1 : Nat} (hval : Value.okWide P W r b1 t v) (hd : DataW.Trod enc P W 0 sp held t v dd ps) :
    ∃ (rows : List (List Int)) (a : Option Addr) (c : Nat), v = .slice a rows.length c ∧ rows.length ≤ c ∧ c ≤ maxLen ∧ (∀ x ∈ rows, x.length = m ∧ ∀ z ∈ x, inI64 z) ∧ (rows.length = 0 ∨ ∃ g o, a = some ⟨g, o, none⟩ ∧ Cells W g o (rows.flatMap i64s)) := by
  obtain ⟨a0, l0, c0, rfl⟩ := okWide_slice hu hval
  obtain ⟨fuel, hfu⟩ := hd
  rcases DataW.trod_slice hu hfu with ⟨hcs, _⟩ | ⟨a, len, cap, elems, rest, n, _, hcs, _, _, hlc, hcm, hlen, hel, _⟩
  · refine ⟨[], a0, c0, ?_, by simp, ?_, by simp, .inl rfl⟩
    · simp [Value.cells] at hcs
      obtain ⟨rfl, rfl, rfl⟩ := hcs
      rfl
    · simp [Value.cells] at hcs
      obtain ⟨rfl, rfl, rfl⟩ := hcs
      omega
  · simp [Value.cells] at hcs
    obtain ⟨rfl, rfl, rfl⟩ := hcs
    obtain ⟨i0, hi0, hs0⟩ := flatN_info hf
    have hco : P.cellsOf e = m := by simp [Program.cellsOf, hi0, hs0]
    have key : ∀ i, i < l0 → ∃ x : List Int, (x.length = m ∧ ∀ z ∈ x, inI64 z) ∧ ∀ j v, (i64s x)[j]? = some v → W.cell? ((a.add (i * m)).add j) = some v := by
      intro i hi
      have h1 := hel i hi
      rw [hco] at h1
      rw [List.getElem?_eq_getElem (by omega)] at h1
      obtain ⟨cs, hcs, htr⟩ := Option.bind_eq_some_iff.1 h1
      obtain ⟨_, hl3, hcells⟩ := World.cells?_some hcs
      obtain ⟨hic, hil⟩ := trod_flat d e m hf _ _ _ htr
      obtain ⟨x, rfl, hx⟩ := hic.list
      refine ⟨x, ⟨by rw [← i64s_len]; exact hil, hx⟩, fun j v hj => ?_⟩
      have hjm : j < m := by have := (List.getElem?_eq_some_iff.1 hj).1; omega
      rw [hcells j hjm]
      exact hj
    by_cases h0 : l0 = 0
    · subst h0
      exact ⟨[], some a, c0, rfl, by simp, hcm, by simp, .inl rfl⟩
    · obtain ⟨x0, ⟨hx0l, _⟩, hx0⟩ := key 0 (by omega)
      have hspot : a.spot = none := by
        obtain ⟨z, hz⟩ : ∃ z, x0[0]? = some z := ⟨_, List.getElem?_eq_getElem (by omega)⟩
        have := hx0 0 (.int .i64 z) (by simp [i64s, hz])
        obtain ⟨b, o, sp⟩ := a
        simp only [Nat.zero_mul] at this
        have e : (Addr.add (Addr.add ⟨b, o, sp⟩ 0) 0) = ⟨b, o, sp⟩ := by unfold Addr.add; simp
        rw [e] at this
        exact Go.Proofs.cell_spot this
      obtain ⟨b, o, sp⟩ := a
      simp only at hspot
      subst hspot
      let rows : List (List Int) := (List.range l0).map fun i => if h : i < l0 then (key i h).choose else []
      have hol : rows.length = l0 := by simp [rows]
      have hat : ∀ i x, rows[i]? = some x → ∃ h : i < l0, x = (key i h).choose := fun i x hx => by
        have hi : i < l0 := by rw [← hol]; exact (List.getElem?_eq_some_iff.1 hx).1
        have : rows[i]? = some (key i hi).choose := by simp [rows, hi]
        rw [this] at hx
        exact ⟨hi, (Option.some.inj hx).symm⟩
      have hrows : ∀ x ∈ rows, x.length = m ∧ ∀ z ∈ x, inI64 z := fun x hx => by
        obtain ⟨i, hi⟩ := List.mem_iff_getElem?.1 hx
        obtain ⟨h, rfl⟩ := hat i x hi
        exact (key i h).choose_spec.1
      refine ⟨rows, some ⟨b, o, none⟩, c0, by rw [hol], by omega, hcm, hrows, .inr ⟨b, o, rfl, fun k v hk => ?_⟩⟩
      have hlen : (rows.flatMap i64s).length = l0 * m := by rw [fm_len (k := m) (fun x hx => by rw [i64s_len]; exact (hrows x hx).1), hol]
      have hkl : k < l0 * m := by rw [← hlen]; exact (List.getElem?_eq_some_iff.1 hk).1
      have hdiv : k / m < l0 := Nat.div_lt_of_lt_mul (by rw [Nat.mul_comm]; exact hkl)
      obtain ⟨x, hx⟩ : ∃ x, rows[k / m]? = some x := ⟨_, List.getElem?_eq_getElem (by omega)⟩
      obtain ⟨h, hxe⟩ := hat _ x hx
      have hmod : k % m < m := Nat.mod_lt _ hm
      have hkeq : k / m * m + k % m = k := by rw [Nat.mul_comm]; exact Nat.div_add_mod k m
      obtain ⟨u, hu'⟩ : ∃ u, (i64s x)[k % m]? = some u := ⟨_, List.getElem?_eq_getElem (by rw [i64s_len, (hrows x (List.mem_of_getElem? hx)).1]; exact hmod)⟩
      have h2 := fm_get (k := m) (fun x hx => by rw [i64s_len]; exact (hrows x hx).1) hx hu'
      rw [hkeq, hk] at h2
      obtain rfl := Option.some.inj h2
      have := (key (k / m) h).choose_spec.2 (k % m) v (by rw [← hxe]; exact hu')
      rw [add_none, add_none, Nat.add_assoc, hkeq] at this
      exact this

/-- A struct of such that came in. -/
theorem open_flat {t m d : Nat} {fs : Array Field} (hu : P.underlying t = some (.struct fs)) (hf : flatN P d t = some m) {v : Value} {dd : DataW H} {ps : List MemPlace} {r : Reach} {b1 : Nat} (hval : Value.okWide P W r b1 t v) (hd : DataW.Trod enc P W 0 sp held t v dd ps) :
    ∃ xs : List Int, v = .agg (i64s xs).toArray ∧ xs.length = m ∧ ∀ z ∈ xs, inI64 z := by
  obtain ⟨cs, rfl, _⟩ := okWide_struct hu hval
  obtain ⟨fuel, hfu⟩ := hd
  obtain ⟨hic, hil⟩ := trod_flat d t m hf _ _ _ hfu
  obtain ⟨xs, hx, hr⟩ := hic.list
  refine ⟨xs, ?_, ?_, hr⟩
  · have : cs.toList = i64s xs := hx
    rw [← this]
  · have : cs.toList = i64s xs := hx
    rw [← i64s_len, ← this]
    exact hil

end

end Go.Proofs.YtlfolinjajjgjaaDoor
namespace Go.Proofs.YtlfolinjajjgjaaDoor
open Go.E Go.ChangeShapes Go.WideShapes Go.ChangeAt Go.RowKit

theorem im_cells (x : List Int) (h9 : x.length = 9) : imC (x.take 8, x.getD 8 0) = i64s x := by
  match x, h9 with
  | [a, b, c, d, e, f, g, h, i], _ => rfl
theorem lay_eight (ls : List Int) (h8 : ls.length = 8) : ∃ L a b I N c d e, ls = layI L a b I N c d e := by
  match ls, h8 with
  | [L, a, b, I, N, c, d, e], _ => exact ⟨L, a, b, I, N, c, d, e, rfl⟩

set_option maxRecDepth 100000 in
set_option maxHeartbeats 1000000 in
theorem intentReadsAsSpecified_lifted (os : Os) (started : os.Started) (H : Type) (enc : TypeId × Value → H) :
    ReturnsInHanded {} Tryd.checked os 5 .any (fun w args => (Rows.intentReadsAsSpecifiedSpec.pre enc Tryd.prog Tryd.f5 [] false w args ∧ laidMetH Tryd.prog seatLaid w) ∧ sizedMet enc Tryd.prog Tryd.f5 (OpenSpec.ofChange Rows.intentReadsAsSpecifiedSpec) false w args)
      (Rows.intentReadsAsSpecifiedSpec.post enc Tryd.prog Tryd.f5 false true false false) := by
  refine returnsInHanded_of_change_and (C := Tryd.checked) (X := fun w _ => laidMetH Tryd.prog seatLaid w) (fun _ _ _ hh h => h.of_heap hh) seatOwn started (by kernel_rfl) Tryd.func5
    (ChangeSpec.witness_shaped (enc := enc) (C := Tryd.checked) (os := os) (X := fun w _ => laidMetH Tryd.prog seatLaid w) false (World.laidAll Tryd.prog os seatLaid) #[.slice none 0 0, .agg #[.int .i64 0, .int .i64 0, .int .i64 0, .int .i64 0, .int .i64 0, .int .i64 0, .int .i64 0, .int .i64 0]] 8 (World.laidAll_os _ _ _)
      (World.shaped_of_ZipB (by kernel_rfl) (by kernel_rfl)) (by kernel_rfl) (by kernel_rfl) (by kernel_rfl)
      (by rw [MakeChecks.laidMetH_plain _ _ _ (by kernel_rfl)]; exact laidMet_laidAll _ (by kernel_rfl) (by kernel_rfl))) ?_
  intro W base args ds gs before hval0 hW _ _ hL _
  have hval : ∀ (j : Nat) t v, Tryd.f5.params[j]? = some t → args[j]? = some v → Value.okWide Tryd.prog W .any base t v := hval0
  have hW' := hW
  have hlt := hW.lt
  obtain ⟨p, q, hA0, hV, rfl, _, _⟩ := hW
  have hA : DataW.TrodAll enc Tryd.prog W 0 (fun _ => true) true Tryd.f5.params.toList args.toList ds p := hA0
  rw [show Tryd.f5.params = #[41, 27] from rfl] at hA hval
  obtain ⟨v0, v1, d0, d1, p0, p1, rfl, rfl, rfl, h0, h1⟩ := trodAll_two hA
  obtain ⟨rfl, rfl⟩ := trodVars_none hV
  have hui : Tryd.prog.underlying 41 = some (.slice 48) := by kernel_rfl
  obtain ⟨rows, ai, ci, rfl, _, _, hrows, hcells⟩ := open_rows (d := 4) (m := 9) hui (by kernel_rfl) (by decide) (hval 0 41 v0 rfl rfl) h0
  obtain ⟨fs, hfs, _, _⟩ := structB_eq (show structB Tryd.prog 27 8 = true by kernel_rfl)
  obtain ⟨ls, rfl, hls, _⟩ := open_flat (d := 4) (m := 8) hfs (by kernel_rfl) (hval 1 27 v1 rfl rfl) h1
  have hg := gl_of_laid hL
  have hlt0 : ∀ x ∈ p0, x.block < W.heap.size := fun x hx => hlt x (by simp [hx])
  have hlt1 : ∀ x ∈ p1, x.block < W.heap.size := fun x hx => hlt x (by simp [hx])
  simp only [List.append_nil] at hW'
  have himg : ImgR W (.slice ai rows.length ci) (rows.map fun x => (x.take 8, x.getD 8 0)) := by
    refine ⟨ai, ci, by rw [List.length_map], fun r hr => ?_, ?_⟩
    · obtain ⟨x, hx, rfl⟩ := List.mem_map.1 hr
      rw [List.length_take, (hrows x hx).1]; rfl
    · rcases hcells with h | ⟨g, o, rfl, hc⟩
      · exact .inl (by rw [List.length_map]; exact h)
      · refine .inr ⟨g, o, rfl, ?_⟩
        rw [List.flatMap_map]
        rw [flatMap_cong (g := i64s)]
        · exact hc
        · intro x hx
          exact im_cells x (hrows x hx).1
  obtain ⟨L, a, b, I, N, c, d, e, rfl⟩ := lay_eight ls hls
  refine (IntentReads_calls hg _ _ himg L a b I N c d e).mono fun e' W' ⟨v, he, hv, ht⟩ => ?_
  subst he; subst hv
  refine ⟨_, rfl, _, _, _, [], _, [], hW', trodAll_mk1 (shut_bool (show Tryd.prog.underlying 4 = some .bool by kernel_rfl) true),
    trodAll_mk2 (Below.trod seatLaidOut (by kernel_rfl) (of_decide_eq_true (by kernel_rfl)) h0 (below_of_tr ht) hlt0) (Below.trod seatLaidOut (by kernel_rfl) (of_decide_eq_true (by kernel_rfl)) h1 (below_of_tr ht) hlt1), rfl, kept_of_tr ht _, fun h => by cases h⟩

set_option maxRecDepth 100000 in
theorem intentReadsAsSpecified_holds : Rows.IntentReadsAsSpecifiedSaid :=
  OpenClaim.holds_of_wide 5 Tryd.f5 rfl rfl rfl rfl rfl rfl rfl ⟨rfl, rfl, rfl, rfl, rfl⟩ rfl rfl rfl rfl rfl (by kernel_rfl) Tryd.func5 (by kernel_rfl)
    (of_decide_eq_true (by kernel_rfl)) (by unfold Func.isWrapper; first | (rw [if_pos (by decide +kernel)]; kernel_rfl) | (rw [if_neg (by decide +kernel)]; exact ⟨rfl, rfl⟩))
    (fun os started H enc _ => intentReadsAsSpecified_lifted os started H enc)

set_option maxRecDepth 100000 in
theorem intentReadsAsSpecified_card_holds : Rows.IntentReadsAsSpecifiedCardSaid :=
  Claim7.holds_tied_plain_at .later [] [.data, .data, .data] true (true, "e2018c27084df3d6f7bb91bc92afed6e3738c25d70937eb6950d3968fef93b99") false intentReadsAsSpecified_holds (fun _ h => by cases h) (by kernel_rfl) (fun _ h => by cases h) intentReadsAsSpecified_row_tie rfl ⟨rfl, rfl⟩ (by kernel_rfl) rfl
    (fun f fn hf hfn => by
      obtain rfl : f = 5 := Option.some.inj ((show Tryd.prog.funcNamed "alum/alumlaw13.IntentReadsAsSpecified" = some 5 by kernel_rfl).symm.trans hf) |>.symm
      obtain rfl : fn = Tryd.f5 := (Option.some.inj (Tryd.func5.symm.trans hfn)).symm
      exact ⟨by kernel_rfl, fun j t ht => by
        rw [show Tryd.f5.params = #[41, 27] from rfl] at ht
        have hm : t ∈ [41, 27] := by simpa using Array.mem_of_getElem? ht
        have hall : ([41, 27].all fun u => !Tryd.prog.wantsStandIn u) = true := by kernel_rfl
        exact (show Tryd.prog.wantsStandIn t = false by simpa using List.all_eq_true.1 hall t hm)⟩)
    (by kernel_rfl)

end Go.Proofs.YtlfolinjajjgjaaDoor
