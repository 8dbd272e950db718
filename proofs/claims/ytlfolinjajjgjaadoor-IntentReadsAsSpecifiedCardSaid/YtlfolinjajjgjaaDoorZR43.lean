/- Part 4 of the proof: A0, A1, A2, A3, A4, A5 -/
import Derived.Test.YtlfolinjajjgjaaDoorZR42

/- The specification of the slots: Owns, Has, vacant. -/
namespace Go.Proofs.YtlfolinjajjgjaaDoor
open Go.E

section
variable {w : World}

theorem Owns_calls (S : List Sl) (s : Value) (hs : SlR w s S) (owner : Int) :
    Calls cx.P 54 #[s, .int .i64 owner] w (Ret fun v w' => v = .bool (S.any fun s => decide ((s.owner : Int) = owner)) ∧ w = w') := by
  obtain ⟨a, c, rfl, hn, hs⟩ := hs
  refine calls_body cx_ok (args := [.slice a S.length c, .int .i64 owner]) Tryd.func54 rfl 19 rfl rfl [.tmp 4] rfl ?_
  refine loop_rule cx_ok (fun k W => k ≤ S.length ∧ w = W ∧ ∀ i s, i < k → S[i]? = some s → ¬ (s.owner : Int) = owner) (fun k : Nat => [(0, .slice a S.length c), (1, .int .i64 owner), (5, .int .i64 k)]) (fun k => S.length - k) 0 ⟨rfl, rfl, rfl, trivial⟩ ⟨by omega, rfl, fun i s hi => by omega⟩ ?_
  rintro k _ ⟨hk, rfl, hno⟩
  refine ⟨fun hlt => ?_, fun hge => ?_⟩
  · have hkx : k < S.length := by omega
    obtain ⟨g, o, rfl, hc⟩ := hs.resolve_left (fun hh => by have := hh.2; omega)
    have hsk : S[k]? = some S[k] := List.getElem?_eq_getElem hkx
    obtain ⟨_, bv, h1, _⟩ := hc k _ hsk
    have c1 : w.cell? ⟨g, o + k * 4 + 1, none⟩ = some (.int .i64 (S[k].owner : Nat)) := h1 1 _ rfl
    refine ⟨k, rfl, hkx, _, c1, fun he => ?_, fun hne => ?_⟩
    · refine ⟨?_, rfl⟩
      have : (S.any fun s => decide ((s.owner : Int) = owner)) = true := List.any_eq_true.2 ⟨_, List.getElem_mem hkx, decide_eq_true he⟩
      rw [this]; rfl
    · refine ⟨((k + 1 : Nat) : Int), by rw [w64 (by omega)]; omega, ?_⟩
      refine ⟨rfl, k + 1, ⟨rfl, rfl, rfl, trivial⟩, ⟨by omega, rfl, fun i s hi hs' => ?_⟩, by omega⟩
      by_cases hik : i = k
      · subst hik
        rw [hsk] at hs'
        obtain rfl := Option.some.inj hs'
        exact hne
      · exact hno i s (by omega) hs'
  · refine ⟨?_, rfl⟩
    have : (S.any fun s => decide ((s.owner : Int) = owner)) = false := by
      rw [List.any_eq_false]
      intro s hs' he
      obtain ⟨i, hi⟩ := List.mem_iff_getElem?.1 hs'
      have := (List.getElem?_eq_some_iff.1 hi).1
      exact hno i s (by omega) hi (of_decide_eq_true he)
    rw [this]; rfl

theorem Has_calls (S : List Sl) (s : Value) (hs : SlR w s S) (x : Int) :
    Calls cx.P 55 #[s, .int .i64 x] w (Ret fun v w' => v = .bool (twiceA S x) ∧ w = w') := by
  obtain ⟨a, c, rfl, hn, hs⟩ := hs
  refine calls_body cx_ok (args := [.slice a S.length c, .int .i64 x]) Tryd.func55 rfl 33 rfl rfl [.tmp 4] rfl ?_
  refine loop_rule cx_ok (fun k W => k ≤ S.length ∧ w = W ∧ ∀ i s, i < k → S[i]? = some s → (s.blocks.any fun y : Nat => x == (y : Int)) = false) (fun k : Nat => [(0, .slice a S.length c), (1, .int .i64 x), (5, .int .i64 k)]) (fun k => S.length - k) 0 ⟨rfl, rfl, rfl, trivial⟩ ⟨by omega, rfl, fun i s hi => by omega⟩ ?_
  rintro k _ ⟨hk, rfl, hno⟩
  refine ⟨fun hlt => ?_, fun hge => ?_⟩
  · have hkx : k < S.length := by omega
    obtain ⟨g, o, rfl, hc⟩ := hs.resolve_left (fun hh => by have := hh.2; omega)
    obtain ⟨z, hz⟩ : ∃ z, z = S[k] := ⟨_, rfl⟩
    have hsk : S[k]? = some z := by rw [hz]; exact List.getElem?_eq_getElem hkx
    obtain ⟨hb, bv, h1, h2⟩ := hc k _ hsk
    obtain ⟨ab, cb, rfl, _, hbc⟩ := h2
    have c3 : w.cell? ⟨g, o + k * 4 + 3, none⟩ = some (.slice ab z.blocks.length cb) := h1 3 _ rfl
    refine loop_rule cx_ok (fun j W => j ≤ z.blocks.length ∧ w = W ∧ ∀ i y, i < j → z.blocks[i]? = some y → ¬ x = ((y : Nat) : Int)) (fun j : Nat => [(0, .slice (some ⟨g, o, none⟩) S.length c), (1, .int .i64 x), (5, .int .i64 k), (6, .int .i64 j)]) (fun j => z.blocks.length - j) 0 ⟨rfl, rfl, rfl, rfl, trivial⟩ ⟨by omega, rfl, fun i y hi => by omega⟩ ?_
    rintro j _ ⟨hj, rfl, hnj⟩
    refine ⟨k, rfl, hkx, _, c3, fun hjlt => ?_, fun hjge => ?_⟩
    · have hjl : j < z.blocks.length := by omega
      obtain ⟨g2, o2, rfl, hcc⟩ := hbc.resolve_left (fun hh => by have := hh.2; omega)
      have hxj : z.blocks[j]? = some z.blocks[j] := List.getElem?_eq_getElem hjl
      have hcell : w.cell? ⟨g2, o2 + j * 1, none⟩ = some (.int .i64 (z.blocks[j] : Nat)) := by rw [Nat.mul_one]; exact hcc j _ (icells_get hxj)
      refine ⟨k, rfl, hkx, _, c3, j, rfl, hjl, _, hcell, fun he => ?_, fun hne => ?_⟩
      · refine ⟨?_, rfl⟩
        have : twiceA S x = true := by
          unfold twiceA
          exact List.any_eq_true.2 ⟨z, List.mem_of_getElem? hsk, List.any_eq_true.2 ⟨z.blocks[j], List.getElem_mem hjl, by simpa using he.symm⟩⟩
        rw [this]; rfl
      · refine ⟨((j + 1 : Nat) : Int), by rw [w64 (by omega)]; omega, ?_⟩
        refine ⟨rfl, j + 1, ⟨rfl, rfl, rfl, rfl, trivial⟩, ⟨hjl, rfl, fun i y hi hy => ?_⟩, by omega⟩
        by_cases hij : i = j
        · subst hij
          rw [hxj] at hy
          obtain rfl := Option.some.inj hy
          exact fun e => hne e.symm
        · exact hnj i y (by omega) hy
    · refine ⟨((k + 1 : Nat) : Int), by rw [w64 (by omega)]; omega, ?_⟩
      refine ⟨rfl, k + 1, ⟨rfl, rfl, rfl, trivial⟩, ⟨by omega, rfl, fun i s hi hs' => ?_⟩, by omega⟩
      by_cases hik : i = k
      · subst hik
        rw [hsk] at hs'
        obtain rfl := Option.some.inj hs'
        rw [List.any_eq_false]
        intro y hy he
        obtain ⟨q, hq⟩ := List.mem_iff_getElem?.1 hy
        have := (List.getElem?_eq_some_iff.1 hq).1
        exact hnj q y (by omega) hq (by simpa using he)
      · exact hno i s (by omega) hs'
  · refine ⟨?_, rfl⟩
    have : twiceA S x = false := by
      unfold twiceA
      rw [List.any_eq_false]
      intro s hs' he
      obtain ⟨i, hi⟩ := List.mem_iff_getElem?.1 hs'
      have := (List.getElem?_eq_some_iff.1 hi).1
      rw [hno i s (by omega) hi] at he
      cases he
    rw [this]; rfl

def vacF (S : List Sl) (n : Nat) : Int := match (List.range n).find? (fun k : Nat => !usedA S (k : Int)) with
  | some k => (k : Int)
  | none => -1

theorem vacant_calls (S : List Sl) (s : Value) (hs : SlR w s S) (n : Nat) (hn64 : n ≤ 1048576) :
    Calls cx.P 77 #[s, .int .i64 (n : Nat)] w (Ret fun v w' => v = .int .i64 (vacF S n) ∧ w = w') := by
  obtain ⟨a, c, rfl, hn, hs⟩ := hs
  refine calls_body cx_ok (args := [.slice a S.length c, .int .i64 (n : Nat)]) Tryd.func77 rfl 32 rfl rfl [.tmp 4] rfl ?_
  refine loop_rule cx_ok (fun i W => i ≤ n ∧ w = W ∧ ∀ j, j < i → usedA S (j : Nat) = true) (fun i : Nat => [(0, .slice a S.length c), (1, .int .i64 n), (5, .int .i64 i)]) (fun i => n - i) 0 ⟨rfl, rfl, rfl, trivial⟩ ⟨by omega, rfl, fun j hj => by omega⟩ ?_
  rintro i _ ⟨hi, rfl, hu⟩
  refine ⟨fun hlt => ?_, fun hge => ?_⟩
  · have hin : i < n := by omega
    refine loop_rule cx_ok (fun k W => k ≤ S.length ∧ w = W) (fun k : Nat => [(0, .slice a S.length c), (1, .int .i64 n), (5, .int .i64 i), (6, .bool (usedA (S.take k) (i : Nat))), (7, .int .i64 k)]) (fun k => S.length - k) 0 ⟨rfl, rfl, rfl, rfl, rfl, trivial⟩ ⟨by omega, rfl⟩ ?_
    rintro k _ ⟨hk, rfl⟩
    refine ⟨fun hlt2 => ?_, fun hge2 => ?_⟩
    · have hkx : k < S.length := by omega
      obtain ⟨g, o, rfl, hc⟩ := hs.resolve_left (fun hh => by have := hh.2; omega)
      have hsk : S[k]? = some S[k] := List.getElem?_eq_getElem hkx
      obtain ⟨_, bv, h1, _⟩ := hc k _ hsk
      have c0 : w.cell? ⟨g, o + k * 4 + 0, none⟩ = some (.int .i64 (S[k].slot : Nat)) := h1 0 _ rfl
      have hst : usedA (S.take (k + 1)) (i : Nat) = (usedA (S.take k) (i : Nat) || decide ((S[k].slot : Int) = (i : Nat))) := by
        unfold usedA
        rw [List.take_succ_eq_append_getElem hkx]
        simp only [List.any_append, List.any_cons, List.any_nil, Bool.or_false]
      have hw : IntKind.i64.wrap ((k : Int) + 1) = ((k + 1 : Nat) : Int) := by rw [w64 (by omega)]; omega
      have hsub : ∀ b : Bool, usedA (S.take (k + 1)) (i : Nat) = b → some (Value.bool b) = some (Value.bool (usedA (S.take (k + 1)) (i : Nat))) := fun b hb => by rw [hb]
      cases hu0 : usedA (S.take k) (i : Nat) with
      | true =>
        rw [hu0, Bool.true_or] at hst
        exact ⟨_, hw, rfl, k + 1, ⟨rfl, rfl, rfl, hsub _ hst, rfl, trivial⟩, ⟨hkx, rfl⟩, by omega⟩
      | false =>
        rw [hu0, Bool.false_or] at hst
        refine ⟨k, rfl, hkx, _, c0, fun he => ?_, fun hne => ?_⟩
        · rw [decide_eq_true he] at hst
          exact ⟨_, hw, rfl, k + 1, ⟨rfl, rfl, rfl, hsub _ hst, rfl, trivial⟩, ⟨hkx, rfl⟩, by omega⟩
        · rw [decide_eq_false hne] at hst
          exact ⟨_, hw, rfl, k + 1, ⟨rfl, rfl, rfl, hsub _ hst, rfl, trivial⟩, ⟨hkx, rfl⟩, by omega⟩
    · obtain rfl : k = S.length := by omega
      cases hu0 : usedA (S.take S.length) (i : Nat) with
      | true =>
        rw [List.take_length] at hu0
        refine ⟨((i + 1 : Nat) : Int), by rw [w64 (by omega)]; omega, ?_⟩
        refine ⟨rfl, i + 1, ⟨rfl, rfl, rfl, trivial⟩, ⟨by omega, rfl, fun j hj => ?_⟩, by omega⟩
        by_cases hji : j = i
        · subst hji; exact hu0
        · exact hu j (by omega)
      | false =>
        rw [List.take_length] at hu0
        refine ⟨?_, rfl⟩
        have : (List.range n).find? (fun k : Nat => !usedA S (k : Int)) = some i := by
          rw [List.find?_eq_some_iff_append]
          refine ⟨by simp [hu0], List.range i, List.range' (i + 1) (n - i - 1), range_split i n hin, fun j hj => ?_⟩
          rw [hu j (List.mem_range.1 hj)]; rfl
        unfold vacF
        rw [this]
        rfl
  · obtain rfl : i = n := by omega
    refine ⟨?_, rfl⟩
    have : (List.range i).find? (fun k : Nat => !usedA S (k : Int)) = none := by
      rw [List.find?_eq_none]
      intro j hj
      rw [hu j (List.mem_range.1 hj)]
      simp
    unfold vacF
    rw [this]
    rfl

end

end Go.Proofs.YtlfolinjajjgjaaDoor

/- The specification of the slots: lists that are made. -/
namespace Go.Proofs.YtlfolinjajjgjaaDoor
open Go.E

/-- A slice to read alone, in a block of D. -/
def SliD (w : World) (v : Value) (n : Nat) (xs : List Value) (D : Nat → Prop) : Prop := ∃ a c, v = .slice a n c ∧ n ≤ c ∧ ((a = none ∧ n = 0) ∨ ∃ g o, a = some ⟨g, o, none⟩ ∧ D g ∧ Cells w g o xs)

theorem SliD.sli {w : World} {v : Value} {n : Nat} {xs : List Value} {D : Nat → Prop} (h : SliD w v n xs D) : Sli w v n xs := by
  obtain ⟨a, c, hv, hn, h | ⟨g, o, ha, _, hc⟩⟩ := h
  · exact ⟨a, c, hv, hn, .inl h⟩
  · exact ⟨a, c, hv, hn, .inr ⟨g, o, ha, hc⟩⟩
theorem SliD.tr {T : List Nat} {w w' : World} {v : Value} {n : Nat} {xs : List Value} {D : Nat → Prop} (h : SliD w v n xs D) (t : Tr T w w') (hn : ∀ b, b ∈ T → ¬ D b) : SliD w' v n xs D := by
  obtain ⟨a, c, hv, hl, h | ⟨g, o, ha, hd, hc⟩⟩ := h
  · exact ⟨a, c, hv, hl, .inl h⟩
  · exact ⟨a, c, hv, hl, .inr ⟨g, o, ha, hd, hc.tr t fun hm => hn g hm hd⟩⟩
theorem SliD.ext {w w' : World} {v : Value} {n : Nat} {xs : List Value} {D : Nat → Prop} (h : SliD w v n xs D) (t : Tr [] w w') : SliD w' v n xs D := h.tr t (by simp)
theorem SliD.mono {w : World} {v : Value} {n : Nat} {xs : List Value} {D D' : Nat → Prop} (h : SliD w v n xs D) (hD : ∀ b, D b → D' b) : SliD w v n xs D' := by
  obtain ⟨a, c, hv, hl, h | ⟨g, o, ha, hd, hc⟩⟩ := h
  · exact ⟨a, c, hv, hl, .inl h⟩
  · exact ⟨a, c, hv, hl, .inr ⟨g, o, ha, hD g hd, hc⟩⟩
theorem Row.slid {w : World} {e size n : Nat} {v : Value} {xs : List Value} (h : Row w e size v n xs) : SliD w v n xs (fun b => v.ownBlock = some b) := by
  rcases Row.elem h with ⟨rfl, rfl⟩ | ⟨g, cap, rfl, hn, _, hc⟩
  · exact ⟨none, 0, rfl, Nat.le_refl _, .inl ⟨rfl, rfl⟩⟩
  · exact ⟨_, cap, rfl, hn, .inr ⟨g, 0, rfl, rfl, hc⟩⟩
theorem SliD.slice {w : World} {v : Value} {n : Nat} {xs : List Value} {D : Nat → Prop} (h : SliD w v n xs D) : ∃ a c, v = .slice a n c := let ⟨a, c, h, _⟩ := h; ⟨a, c, h⟩
theorem SliD.one {w : World} {v : Value} {n : Nat} {xs : List Value} {D : Nat → Prop} (h : SliD w v n xs D) : E.one v = true := by obtain ⟨a, c, rfl⟩ := h.slice; rfl

/-- append of a slice to read alone. -/
theorem append_gen {t e ty : Nat} {x y : TI} (ht : tget cx.tb t = some x) (hx : x.kd = .slice e) (he : tget cx.tb e = some y) (hsz : 0 < y.size)
    {w : World} {v : Value} {n : Nat} {xs : List Value} (h : Row w e y.size v n xs) {bv : Value} {m : Nat} {news : List Value} (hb : Sli w bv m news) (hl : news.length = m * y.size) (h1 : news.all one = true)
    (h63 : n + m ≤ 1099511627776) (hby : y.bytes ≤ 128) {K : Value → World → Prop}
    (hK : ∀ v' w', Row w' e y.size v' (n + m) (xs ++ news) → Tr v.ownBlock.toList w w' → (v'.ownBlock = v.ownBlock ∨ v'.ownBlock = some w.heap.size) → K v' w') :
    RunV cx.P (Builtin.append_ #[t, t] ty #[v, bv]) w K := by
  obtain ⟨a, c, rfl, _, ⟨rfl, rfl⟩ | ⟨g, o, rfl, hc⟩⟩ := hb
  · have : news = [] := List.eq_nil_of_length_eq_zero (by rw [hl]; simp)
    subst this
    exact append_none ht hx he h c (hK v w (by simpa using h) (Tr.refl _ _) (.inl rfl))
  · exact append_own cx_ok ht hx he hsz h g o m c news hl hc h1 h63 hby fun v' w' hr t hat _ => hK v' w' hr t hat

/-- A cell of a row of the call's own is written. -/
theorem Row.store1 {w : World} {e size n : Nat} {v u : Value} {xs : List Value} (h : Row w e size v n xs) {g o : Nat} (hg : v.ownBlock = some g) (ho : o < xs.length) (hu : E.one u = true) {K : World → Prop}
    (hK : ∀ w', Tr [g] w w' → Row w' e size v n (xs.set o u) → K w') : St1 w g o u K := by
  obtain ⟨h1, ⟨rfl, _⟩ | ⟨g', cap, cur, rfl, hb, h4, h5, h6, h7, h8⟩⟩ := h
  · simp [Value.ownBlock] at hg
  · simp only [Value.ownBlock, Option.some.injEq] at hg
    subst hg
    have hlen : xs.length ≤ cur.toList.length := by rw [← h8, List.length_take]; omega
    refine ⟨cur.toList, e, by unfold Blk; simpa using h4, by omega, hu, fun w' u' => hK w' u'.tr ⟨by simpa using h1, .inr ⟨g', cap, (cur.toList.set o u).toArray, rfl, hb, u'.get, h5, h6, by simpa using h7, ?_⟩⟩⟩
    simp only [List.take_set, h8]

/-- A list of slots, to read alone, in blocks of D. -/
structure SlD (w : World) (v : Value) (Z : List (Sl × Value)) (D : Nat → Prop) : Prop where
  small : Z.length ≤ 1048576
  sl : SliD w v Z.length (Z.flatMap zcells) D
  blk : ∀ z ∈ Z, z.1.blocks.length ≤ 1048576 ∧ SliD w z.2 z.1.blocks.length (icells z.1.blocks) D

theorem SlD.tr {T : List Nat} {w w' : World} {v : Value} {Z : List (Sl × Value)} {D : Nat → Prop} (h : SlD w v Z D) (t : Tr T w w') (hn : ∀ b, b ∈ T → ¬ D b) : SlD w' v Z D :=
  ⟨h.small, h.sl.tr t hn, fun z hz => ⟨(h.blk z hz).1, (h.blk z hz).2.tr t hn⟩⟩
theorem SlD.ext {w w' : World} {v : Value} {Z : List (Sl × Value)} {D : Nat → Prop} (h : SlD w v Z D) (t : Tr [] w w') : SlD w' v Z D := h.tr t (by simp)
theorem SlD.mono {w : World} {v : Value} {Z : List (Sl × Value)} {D D' : Nat → Prop} (h : SlD w v Z D) (hD : ∀ b, D b → D' b) : SlD w v Z D' :=
  ⟨h.small, h.sl.mono hD, fun z hz => ⟨(h.blk z hz).1, (h.blk z hz).2.mono hD⟩⟩
theorem SlD.nil (w : World) (D : Nat → Prop) : SlD w (.slice none 0 0) [] D := ⟨by simp, ⟨none, 0, rfl, Nat.le_refl _, .inl ⟨rfl, rfl⟩⟩, by simp⟩

theorem zcells_at {Z : List (Sl × Value)} {j : Nat} {z : Sl × Value} (h : Z[j]? = some z) {W : World} {g o : Nat} (hc : Cells W g o (Z.flatMap zcells)) : Cells W g (o + j * 4) (zcells z) := fun i v hv => by
  rw [Nat.add_assoc]
  exact hc _ _ (fm_get (k := 4) (fun _ _ => rfl) h hv)

theorem SlD.slr {w : World} {v : Value} {Z : List (Sl × Value)} {D : Nat → Prop} (h : SlD w v Z D) : SlR w v (Z.map (·.1)) := by
  obtain ⟨a, c, rfl, _, ⟨ha, h0⟩ | ⟨g, o, rfl, _, hc⟩⟩ := h.sl
  · exact ⟨a, c, by rw [List.length_map], by rw [List.length_map]; exact h.small, .inl ⟨ha, by rw [List.length_map]; exact h0⟩⟩
  · refine ⟨_, c, by rw [List.length_map], by rw [List.length_map]; exact h.small, .inr ⟨g, o, rfl, fun i s hs => ?_⟩⟩
    rw [List.getElem?_map] at hs
    obtain ⟨z, hz, rfl⟩ := Option.map_eq_some_iff.1 hs
    have := h.blk z (List.mem_of_getElem? hz)
    exact ⟨this.1, z.2, zcells_at hz hc, this.2.sli⟩

/-- A list of slots that is being made: its own row (in blocks from m on), whose elements' blocks lie in D. -/
structure Out (W : World) (D : Nat → Prop) (m : Nat) (ov : Value) (Z : List (Sl × Value)) : Prop where
  mid : m ≤ W.heap.size
  row : Row W 54 4 ov Z.length (Z.flatMap zcells)
  own : ∀ b, ov.ownBlock = some b → m ≤ b
  sli : ∀ z ∈ Z, z.1.blocks.length ≤ 1048576 ∧ SliD W z.2 z.1.blocks.length (icells z.1.blocks) D
  dm : ∀ b, D b → b < m

theorem Out.nil {W : World} {D : Nat → Prop} (hD : ∀ b, D b → b < W.heap.size) : Out W D W.heap.size (.slice none 0 0) [] := ⟨Nat.le_refl _, World.ownsRow_nil _ _ _ _, fun b hb => by simp [Value.ownBlock] at hb, by simp, hD⟩
theorem Out.tr {T : List Nat} {W W' : World} {D : Nat → Prop} {m : Nat} {ov : Value} {Z : List (Sl × Value)} (h : Out W D m ov Z) (t : Tr T W W') (hn : ∀ b, b ∈ T → ¬ D b ∧ b < m) : Out W' D m ov Z :=
  ⟨Nat.le_trans h.mid t.size, Row.tr h.row t (fun b hb hm => by have := h.own b hb; have := (hn b hm).2; omega), h.own, fun z hz => ⟨(h.sli z hz).1, (h.sli z hz).2.tr t fun b hb => (hn b hb).1⟩, h.dm⟩
theorem Out.ext {W W' : World} {D : Nat → Prop} {m : Nat} {ov : Value} {Z : List (Sl × Value)} (h : Out W D m ov Z) (t : Tr [] W W') : Out W' D m ov Z := h.tr t (by simp)
/-- Behind a store into the row. -/
theorem Out.own_tr {W W' : World} {D : Nat → Prop} {m g : Nat} {ov ov' : Value} {Z Z' : List (Sl × Value)} (h : Out W D m ov Z) (t : Tr [g] W W') (hg : m ≤ g) (hr : Row W' 54 4 ov' Z'.length (Z'.flatMap zcells)) (ho : ∀ b, ov'.ownBlock = some b → m ≤ b)
    (hZ : ∀ z ∈ Z', z.1.blocks.length ≤ 1048576 ∧ SliD W z.2 z.1.blocks.length (icells z.1.blocks) D) : Out W' D m ov' Z' :=
  ⟨Nat.le_trans h.mid t.size, hr, ho, fun z hz => ⟨(hZ z hz).1, (hZ z hz).2.tr t fun b hb hd => by have := h.dm b hd; simp at hb; omega⟩, h.dm⟩

theorem Out.fin {W : World} {D : Nat → Prop} {m : Nat} {ov : Value} {Z : List (Sl × Value)} (h : Out W D m ov Z) (hn : Z.length ≤ 1048576) : SlD W ov Z (fun b => D b ∨ (m ≤ b ∧ b < W.heap.size)) :=
  ⟨hn, (Row.slid h.row).mono fun b hb => .inr ⟨h.own b hb, Row.lt h.row hb⟩, fun z hz => ⟨(h.sli z hz).1, (h.sli z hz).2.mono fun b hb => .inl hb⟩⟩

theorem zcells_one {z : Sl × Value} (h : E.one z.2 = true) : (zcells z).all E.one = true := by
  simp only [zcells, List.all_cons, h, List.all_nil]; rfl

/-- append of one element that lies at an address. -/
theorem Out.append {W : World} {D : Nat → Prop} {m : Nat} {ov : Value} {Z : List (Sl × Value)} (h : Out W D m ov Z) (hn : Z.length ≤ 1048576) {z : Sl × Value} (hz : z.1.blocks.length ≤ 1048576 ∧ SliD W z.2 z.1.blocks.length (icells z.1.blocks) D) (b o c ty : Nat) (hc : Cells W b o (zcells z)) {K : Value → World → Prop}
    (hK : ∀ v' W', Out W' D m v' (Z ++ [z]) → (∀ w1, w1.heap.size ≤ m → Tr [] w1 W → Tr [] w1 W') → K v' W') : RunV cx.P (Builtin.append_ #[29, 29] ty #[ov, .slice (some ⟨b, o, none⟩) 1 c]) W K := by
  refine append_own cx_ok (x := ⟨1, 24, false, [.slice none 0 0], .slice 54⟩) rfl rfl rfl (by decide) h.row b o 1 c (zcells z) rfl hc (zcells_one hz.2.one) (by omega) (by decide) ?_
  intro v' W' hr t hat _
  have hmi := h.mid
  have ht : ∀ w1, w1.heap.size ≤ m → Tr [] w1 W → Tr [] w1 W' := fun w1 h1 h2 => h2.trans t (fun _ h => h) (fun b hb hlt => by have := h.own b (by simpa using hb); omega)
  refine hK v' W' ⟨Nat.le_trans h.mid t.size, by simpa using hr, fun b hb => ?_, fun x hx => ?_, h.dm⟩ ht
  · rcases hat with e | e
    · exact h.own b (e ▸ hb)
    · rw [e] at hb; have := Option.some.inj hb; omega
  · have key : x.1.blocks.length ≤ 1048576 ∧ SliD W x.2 x.1.blocks.length (icells x.1.blocks) D := by
      rcases List.mem_append.1 hx with hx | hx
      · exact h.sli x hx
      · obtain rfl : x = z := by simpa using hx
        exact hz
    exact ⟨key.1, key.2.tr t fun b hb hd => by have := h.own b (by simpa using hb); have := h.dm b hd; omega⟩

/-- append([]Intent{}, l...) -/
theorem Out.copy {w W : World} {b : Nat} (n : New w b (.cells ([] : List Value).toArray 54) W) {D : Nat → Prop} (hD : ∀ b, D b → b < w.heap.size) {s : Value} {Z : List (Sl × Value)} (hs : SlD w s Z D) (ty : Nat) {K : Value → World → Prop}
    (hK : ∀ v' W', Out W' D w.heap.size v' Z → Tr [] w W' → K v' W') : RunV cx.P (Builtin.append_ #[29, 29] ty #[.slice (some ⟨b, 0, none⟩) 0 0, s]) W K := by
  have e1 := n.num; have z1 := n.size
  have hs1 := hs.ext n.tr
  have hone : (Z.flatMap zcells).all E.one = true := by
    rw [List.all_eq_true]
    intro x hx
    obtain ⟨z, hz, hx⟩ := List.mem_flatMap.1 hx
    exact List.all_eq_true.1 (zcells_one (hs.blk z hz).2.one) x hx
  refine append_gen (x := ⟨1, 24, false, [.slice none 0 0], .slice 54⟩) rfl rfl rfl (by decide) (row_empty n) hs1.sl.sli (fm_len fun _ _ => rfl) hone (by have := hs.small; omega) (by decide) ?_
  intro v' W' hr t hat
  have t' : Tr [] w W' := n.tr.trans t (fun _ h => h) (fun c hc hlt => by simp [Value.ownBlock] at hc; omega)
  refine hK v' W' ⟨t'.size, by simpa using hr, fun c hc => ?_, fun z hz => ⟨(hs.blk z hz).1, (hs.blk z hz).2.ext t'⟩, hD⟩ t'
  rcases hat with e | e
  · rw [e] at hc; simp [Value.ownBlock] at hc; omega
  · rw [e] at hc; have := Option.some.inj hc; omega

/-- What a function of the specification returns: slots and 0, or an error. -/
def SlotsQ (w W : World) (D : Nat → Prop) (v : Value) (e : Int) (S : List Sl) : Prop := ∃ sv, v = .agg #[sv, .int .i64 e] ∧ (e = 0 → ∃ Z, Z.map (·.1) = S ∧ SlD W sv Z fun b => D b ∨ (w.heap.size ≤ b ∧ b < W.heap.size)) ∧ E.one sv = true

theorem SlotsQ.err {w W : World} {D : Nat → Prop} {e : Int} (h : e ≠ 0) (S : List Sl) : SlotsQ w W D (.agg #[.slice none 0 0, .int .i64 e]) e S := ⟨_, rfl, fun h' => absurd h' h, rfl⟩

theorem Right07_calls' (x : Int) (w : World) : Calls cx.P 17 #[.int .i64 x] w (Ret fun v w' => v = .bool (rightP x) ∧ w = w') := by
  refine calls_body cx_ok (args := [.int .i64 x]) Tryd.func17 rfl 22 rfl rfl [.tmp 2] rfl ?_
  refine ⟨fun h0 => ?_, fun h0 => ?_⟩
  · exact ⟨by simp [rightP, h0], rfl⟩
  refine call (word07_calls x w) ?_
  rintro _ _ ⟨hv, rfl⟩
  by_cases hw : 0 ≤ x ∧ x ≤ 1099511627775
  · rw [decide_eq_true hw] at hv
    subst hv
    refine ⟨x % 4096, by decide, by rw [IntWalk.rem_in _ _ (by omega)], fun h1 => ?_, fun h1 => ?_⟩
    · refine ⟨x / 4096, by decide, by rw [IntWalk.i64_quo _ _ (by omega)], fun h2 => ?_, fun h2 => ?_⟩
      · refine ⟨x / 4096, by decide, by rw [IntWalk.i64_quo _ _ (by omega)], fun h3 => ?_, fun h3 => ?_⟩
        · exact ⟨by simp [rightP] <;> omega, rfl⟩
        · exact ⟨by simp [rightP] <;> omega, rfl⟩
      · exact ⟨by simp [rightP] <;> omega, rfl⟩
    · exact ⟨by simp [rightP] <;> omega, rfl⟩
  · rw [decide_eq_false hw] at hv
    subst hv
    exact ⟨by simp [rightP] <;> omega, rfl⟩

end Go.Proofs.YtlfolinjajjgjaaDoor

/- The specification of the slots: Closed, Stamped. -/
namespace Go.Proofs.YtlfolinjajjgjaaDoor
open Go.E

section
variable {w : World}

def keepF (S : List Sl) (owner : Int) : List Sl := S.filter fun s => !decide ((s.owner : Int) = owner)
def ownsF (S : List Sl) (owner : Int) : Bool := S.any fun s => decide ((s.owner : Int) = owner)
def refClosed (S : List Sl) (owner : Int) : Int × List Sl := if ownsF S owner then (0, keepF S owner) else (5, [])
def stampS (owner : Int) (st : Nat) (s : Sl) : Sl := if (s.owner : Int) = owner then { s with stamp := st } else s
def refStamped (S : List Sl) (owner stamp : Int) : Int × List Sl :=
  if stamp < 1 ∨ 1073741824 < stamp then (1, []) else if ownsF S owner then (0, S.map (stampS owner stamp.toNat)) else (5, [])

def keepZ (owner : Int) (z : Sl × Value) : Bool := !decide ((z.1.owner : Int) = owner)

theorem take_snoc {α : Type} {l : List α} {k : Nat} {x : α} (h : l[k]? = some x) : l.take (k + 1) = l.take k ++ [x] := by
  have hk := (List.getElem?_eq_some_iff.1 h).1
  rw [List.take_succ_eq_append_getElem hk, (List.getElem?_eq_some_iff.1 h).2]

set_option maxHeartbeats 1000000 in
theorem Closed_calls {Z : List (Sl × Value)} {s : Value} {D : Nat → Prop} (hs : SlD w s Z D) (hD : ∀ b, D b → b < w.heap.size) (owner : Int) :
    Calls cx.P 31 #[s, .int .i64 owner] w (Ret fun v w' => Tr [] w w' ∧ SlotsQ w w' D v (refClosed (Z.map (·.1)) owner).1 (refClosed (Z.map (·.1)) owner).2) := by
  have hs0 := hs
  obtain ⟨hn, ⟨a, c, rfl, _, hsl⟩, hblk⟩ := hs
  refine calls_body cx_ok (args := [.slice a Z.length c, .int .i64 owner]) Tryd.func31 rfl 34 rfl rfl [.cell 4 34] rfl ?_
  intro b4 w1 n1
  have e1 := n1.num; have z1 := n1.size
  have B4 : Blk w1 b4 [.slice none 0 0, .int .i64 0] 34 := n1.blk
  have hown := Owns_calls (Z.map (·.1)) _ (hs0.ext n1.tr).slr owner
  refine call hown ?_
  rintro _ _ ⟨rfl, rfl⟩
  unfold refClosed ownsF
  cases hany : (Z.map (·.1)).any (fun s => decide ((s.owner : Int) = owner)) with
  | false =>
    refine ⟨_, rfl, _, _, B4, rfl, by show 0 + 2 ≤ 2; decide, rfl, fun w2 u2 => ?_⟩
    exact ⟨_, u2.blk.all, rfl, u2.ext n1.tr (by omega), SlotsQ.err (by decide) _⟩
  | true =>
    have hOut0 : Out w1 D w1.heap.size (.slice none 0 0) (([] : List (Sl × Value)).filter (keepZ owner)) := Out.nil fun b hb => by have := hD b hb; omega
    refine loop_rule cx_ok (α := Nat × Value) (fun (⟨k, ov⟩ : Nat × Value) W => k ≤ Z.length ∧ Tr [] w1 W ∧ Out W D w1.heap.size ov ((Z.take k).filter (keepZ owner)))
      (fun (⟨k, ov⟩ : Nat × Value) => [(0, .slice a Z.length c), (1, .int .i64 owner), (4, .pointer (some ⟨b4, 0, none⟩)), (5, ov), (6, .int .i64 k)]) (fun x => Z.length - x.1) (0, .slice none 0 0) ⟨rfl, rfl, rfl, rfl, rfl, trivial⟩ ⟨by omega, Tr.refl _ _, hOut0⟩ ?_
    rintro ⟨k, ov⟩ W ⟨hk, hW, hO⟩
    have hZl : ((Z.take k).filter (keepZ owner)).length ≤ 1048576 := by
      have := List.length_filter_le (keepZ owner) (Z.take k)
      rw [List.length_take] at this
      omega
    refine ⟨fun hlt => ?_, fun hge => ?_⟩
    · have hkx : k < Z.length := by omega
      obtain ⟨g, o, rfl, hg, hc⟩ := hsl.resolve_left (fun hh => by have := hh.2; omega)
      obtain ⟨z, hz⟩ : ∃ z, Z[k]? = some z := ⟨_, List.getElem?_eq_getElem hkx⟩
      have hcz : Cells W g (o + k * 4) (zcells z) := (zcells_at hz hc).ext (n1.tr.ext hW)
      have c1 : W.cell? ⟨g, o + k * 4 + 1, none⟩ = some (.int .i64 (z.1.owner : Nat)) := hcz 1 _ rfl
      have htk := take_snoc hz
      have hw : IntKind.i64.wrap ((k : Int) + 1) = ((k + 1 : Nat) : Int) := by rw [w64 (by omega)]; omega
      refine ⟨k, rfl, hkx, _, c1, fun he => ?_, fun hne => ?_⟩
      · have he' : keepZ owner z = false := by unfold keepZ; rw [decide_eq_true he]; rfl
        refine ⟨_, hw, rfl, (k + 1, ov), ⟨rfl, rfl, rfl, rfl, rfl, trivial⟩, ⟨hkx, hW, ?_⟩, by show Z.length - (k + 1) < Z.length - k; omega⟩
        rw [htk, List.filter_append, List.filter_cons_of_neg (by simp [he'])]
        simpa using hO
      · have hne' : keepZ owner z = true := by unfold keepZ; rw [decide_eq_false hne]; rfl
        refine ⟨k, rfl, hkx, zcells z, hcz, rfl, _, rfl, fun b2 W2 n2 => ?_⟩
        have hcz2 : Cells W2 b2 0 (zcells z) := n2.blk.all
        have hbz := hblk z (List.mem_of_getElem? hz)
        refine (hO.ext n2.tr).append hZl (z := z) ⟨hbz.1, hbz.2.ext ((n1.tr.ext hW).ext n2.tr)⟩ b2 0 1 _ hcz2 fun v' W3 hO3 ht3 => ?_
        refine ⟨_, hw, rfl, (k + 1, v'), ⟨rfl, rfl, rfl, rfl, rfl, trivial⟩, ⟨hkx, ht3 w1 (Nat.le_refl _) (hW.ext n2.tr), ?_⟩, by show Z.length - (k + 1) < Z.length - k; omega⟩
        rw [htk, List.filter_append, List.filter_cons_of_pos hne']
        exact hO3
    · have hkx : k = Z.length := by omega
      rw [hkx, List.take_length] at hO
      have hone := Row.one hO.row
      have hfl := List.length_filter_le (keepZ owner) Z
      obtain ⟨ao, co, rfl⟩ := Row.slice hO.row
      refine ⟨_, rfl, _, _, B4.ext hW, rfl, by show 0 + 2 ≤ 2; decide, rfl, fun w2 u2 => ?_⟩
      have z2 := u2.size; have zW := hW.size
      refine ⟨_, u2.blk.all, rfl, u2.ext (n1.tr.ext hW) (by omega), _, rfl, fun _ => ?_, hone⟩
      have hO2 := (hO.tr u2.tr (fun b hb => by simp at hb; subst hb; exact ⟨fun hd => by have := hD _ hd; omega, by omega⟩)).fin (by omega)
      refine ⟨_, ?_, hO2.mono fun b hb => hb.imp_right fun h => ⟨by omega, h.2⟩⟩
      show (Z.filter (keepZ owner)).map (·.1) = keepF (Z.map (·.1)) owner
      unfold keepF
      rw [List.filter_map]
      rfl

theorem zc_len (Z : List (Sl × Value)) : (Z.flatMap zcells).length = Z.length * 4 := fm_len fun _ _ => rfl

theorem zc_set {Z : List (Sl × Value)} {i j : Nat} {z z' : Sl × Value} {v : Value} (hz : Z[i]? = some z) (hj : j < 4) (hs : zcells z' = (zcells z).set j v) : (Z.flatMap zcells).set (i * 4 + j) v = (Z.set i z').flatMap zcells := by
  have hlt := (List.getElem?_eq_some_iff.1 hz).1
  rw [← splice_one (by rw [zc_len]; omega)]
  refine fm_splice (k := 4) (n := 1) (vs := [v]) splice (by funext l o n vs; rfl) (fun _ _ => rfl) hz (by omega) ?_
  rw [hs, ← splice_one (by show j < 4; exact hj)]

set_option maxHeartbeats 1000000 in
theorem Stamped_calls {Z : List (Sl × Value)} {s : Value} {D : Nat → Prop} (hs : SlD w s Z D) (hD : ∀ b, D b → b < w.heap.size) (owner stamp : Int) :
    Calls cx.P 32 #[s, .int .i64 owner, .int .i64 stamp] w (Ret fun v w' => Tr [] w w' ∧ SlotsQ w w' D v (refStamped (Z.map (·.1)) owner stamp).1 (refStamped (Z.map (·.1)) owner stamp).2) := by
  have hs0 := hs
  obtain ⟨hn, ⟨a, c, rfl, _, hsl⟩, hblk⟩ := hs
  refine calls_body cx_ok (args := [.slice a Z.length c, .int .i64 owner, .int .i64 stamp]) Tryd.func32 rfl 44 rfl rfl [.cell 6 34] rfl ?_
  intro b6 w1 n1
  have e1 := n1.num; have z1 := n1.size
  have B6 : Blk w1 b6 [.slice none 0 0, .int .i64 0] 34 := n1.blk
  have bad : (stamp < 1 ∨ 1073741824 < stamp) → ∀ w2, Upd w1 b6 (.cells (splice [.slice none 0 0, .int .i64 0] 0 2 [.slice none 0 0, .int .i64 1]).toArray 34) w2 → Tr [] w w2 ∧ SlotsQ w w2 D (.agg #[.slice none 0 0, .int .i64 1]) (refStamped (Z.map (·.1)) owner stamp).1 (refStamped (Z.map (·.1)) owner stamp).2 := fun hb w2 u2 => by
    unfold refStamped
    rw [if_pos hb]
    exact ⟨u2.ext n1.tr (by omega), SlotsQ.err (by decide) _⟩
  refine ⟨fun h1 => ?_, fun h1 => ⟨fun h2 => ?_, fun h2 => ?_⟩⟩
  · refine ⟨_, rfl, _, _, B6, rfl, by show 0 + 2 ≤ 2; decide, rfl, fun w2 u2 => ?_⟩
    exact ⟨_, u2.blk.all, rfl, bad (.inl h1) w2 u2⟩
  · refine ⟨_, rfl, _, _, B6, rfl, by show 0 + 2 ≤ 2; decide, rfl, fun w2 u2 => ?_⟩
    exact ⟨_, u2.blk.all, rfl, bad (.inr h2) w2 u2⟩
  have hown := Owns_calls (Z.map (·.1)) _ (hs0.ext n1.tr).slr owner
  refine call hown ?_
  rintro _ _ ⟨rfl, rfl⟩
  unfold refStamped ownsF
  rw [if_neg (by omega)]
  cases hany : (Z.map (·.1)).any (fun s => decide ((s.owner : Int) = owner)) with
  | false =>
    refine ⟨_, rfl, _, _, B6, rfl, by show 0 + 2 ≤ 2; decide, rfl, fun w2 u2 => ?_⟩
    exact ⟨_, u2.blk.all, rfl, u2.ext n1.tr (by omega), SlotsQ.err (by decide) _⟩
  | true =>
    refine ⟨[], rfl, fun b2 w2 n2 => ?_⟩
    refine Out.copy n2 (fun b hb => by have := hD b hb; omega) (hs0.ext n1.tr) _ fun ov w3 hO3 t3 => ?_
    obtain ⟨st, rfl⟩ := Int.eq_ofNat_of_zero_le (show 0 ≤ stamp by omega)
    obtain ⟨f, hf⟩ : ∃ f : Sl × Value → Sl × Value, f = fun z => (stampS owner st z.1, z.2) := ⟨_, rfl⟩
    obtain ⟨G, hG⟩ : ∃ G : Nat → List (Sl × Value), G = fun k => (Z.take k).map f ++ Z.drop k := ⟨_, rfl⟩
    have hGl : ∀ k, (G k).length = Z.length := fun k => by rw [hG]; simp; omega
    have hO0 : Out w3 D w1.heap.size ov (G 0) := by rw [hG]; simpa using hO3
    refine loop_rule cx_ok (α := Nat) (fun k W => k ≤ Z.length ∧ Tr [] w1 W ∧ Out W D w1.heap.size ov (G k))
      (fun k => [(1, .int .i64 owner), (2, .int .i64 (st : Nat)), (6, .pointer (some ⟨b6, 0, none⟩)), (7, ov), (8, .int .i64 k)]) (fun x => Z.length - x) 0 ⟨rfl, rfl, rfl, rfl, rfl, trivial⟩ ⟨by omega, t3, hO0⟩ ?_
    rintro k W ⟨hk, hW, hO⟩
    have hrow := hO.row
    rcases Row.elem hrow with ⟨rfl, h0⟩ | ⟨g, cap, rfl, hcap, _, hc⟩
    · rw [hGl] at h0
      refine ⟨fun hlt => absurd hlt (by show ¬ ((k : Int) < (0 : Int)); omega), fun hge => ?_⟩
      refine ⟨_, rfl, _, _, B6.ext hW, rfl, by show 0 + 2 ≤ 2; decide, rfl, fun w4 u4 => ?_⟩
      have z4 := u4.size; have zW := hW.size
      refine ⟨_, u4.blk.all, rfl, u4.ext (n1.tr.ext hW) (by omega), _, rfl, fun _ => ?_, rfl⟩
      have : Z = [] := List.eq_nil_of_length_eq_zero h0
      subst this
      exact ⟨[], rfl, SlD.nil _ _⟩
    rw [hGl]
    rw [hGl] at hO hrow
    have hw : IntKind.i64.wrap ((k : Int) + 1) = ((k + 1 : Nat) : Int) := by rw [w64 (by omega)]; omega
    refine ⟨fun hlt => ?_, fun hge => ?_⟩
    · have hkx : k < Z.length := by omega
      obtain ⟨z, hz⟩ : ∃ z, Z[k]? = some z := ⟨_, List.getElem?_eq_getElem hkx⟩
      have hGz : (G k)[k]? = some z := by
        rw [hG]
        simp only
        rw [List.getElem?_append_right (by simp [Nat.le_of_lt hkx])]
        simp [Nat.le_of_lt hkx, hz]
      have hGs : G (k + 1) = (G k).set k (f z) := by
        rw [hG]
        simp only
        rw [take_snoc hz, List.map_append, List.set_append, if_neg (by simp; omega), List.length_map, List.length_take, Nat.min_eq_left hk, Nat.sub_self, List.drop_eq_getElem_cons hkx, List.set_cons_zero]
        simp
      have hcz : Cells W g (0 + k * 4) (zcells z) := zcells_at hGz hc
      have c1 : W.cell? ⟨g, 0 + k * 4 + 1, none⟩ = some (.int .i64 (z.1.owner : Nat)) := hcz 1 _ rfl
      refine ⟨k, rfl, hkx, _, c1, fun he => ?_, fun hne => ?_⟩
      · have hfz : f z = ({ z.1 with stamp := st }, z.2) := by rw [hf]; simp only [stampS]; rw [if_pos he]
        refine ⟨k, rfl, hkx, ?_⟩
        refine Row.store1 hrow rfl (by rw [zc_len, hGl]; show 0 + k * 4 + 2 < _; omega) rfl fun W4 t4 hr4 => ?_
        rw [show 0 + k * 4 + 2 = k * 4 + 2 by omega, zc_set (z' := f z) hGz (by decide) (by rw [hfz]; rfl), ← hGs] at hr4
        have hg := hO.own g rfl
        refine ⟨_, hw, rfl, k + 1, ⟨rfl, rfl, rfl, rfl, rfl, trivial⟩, ⟨hkx, hW.trans t4 (fun _ h => h) (fun b hb hlt => by simp at hb; omega), ?_⟩, by show Z.length - (k + 1) < Z.length - k; omega⟩
        refine hO.own_tr t4 hg (by rw [hGl]; exact hr4) hO.own fun y hy => ?_
        rw [hGs] at hy
        rcases List.mem_or_eq_of_mem_set hy with hy | rfl
        · exact hO.sli y hy
        · rw [hfz]; exact hO.sli z (List.mem_of_getElem? hGz)
      · have hfz : f z = z := by rw [hf]; simp only [stampS]; rw [if_neg hne]
        have : G (k + 1) = G k := by rw [hGs, hfz, ← (List.getElem?_eq_some_iff.1 hGz).2]; exact List.set_getElem_self _
        exact ⟨_, hw, rfl, k + 1, ⟨rfl, rfl, rfl, rfl, rfl, trivial⟩, ⟨hkx, hW, by rw [this]; exact hO⟩, by show Z.length - (k + 1) < Z.length - k; omega⟩
    · have hkx : k = Z.length := by omega
      refine ⟨_, rfl, _, _, B6.ext hW, rfl, by show 0 + 2 ≤ 2; decide, rfl, fun w4 u4 => ?_⟩
      have z4 := u4.size; have zW := hW.size
      refine ⟨_, u4.blk.all, rfl, u4.ext (n1.tr.ext hW) (by omega), _, rfl, fun _ => ?_, rfl⟩
      have hO2 := (hO.tr u4.tr (fun b hb => by simp at hb; subst hb; exact ⟨fun hd => by have := hD _ hd; omega, by omega⟩)).fin (by rw [hGl]; exact hn)
      refine ⟨G k, ?_, ?_⟩
      · rw [hkx, hG]
        simp [hf]
      · exact hO2.mono fun b hb => hb.imp_right fun h => ⟨by omega, h.2⟩

end

end Go.Proofs.YtlfolinjajjgjaaDoor

/- The specification of the slots: opened, Added, Do. -/
namespace Go.Proofs.YtlfolinjajjgjaaDoor
open Go.E

/-- A slot comes in front of the first one behind it. -/
def insG {α : Type} (f : α → Nat) (x : α) : List α → List α
  | [] => [x]
  | s :: r => if f x < f s then x :: s :: r else s :: insG f x r

theorem insG_all {α : Type} {f : α → Nat} {x : α} : ∀ {A B : List α}, (∀ s ∈ A, ¬ f x < f s) → insG f x (A ++ B) = A ++ insG f x B
  | [], B, _ => rfl
  | s :: r, B, h => by
    show (if f x < f s then x :: s :: (r ++ B) else s :: insG f x (r ++ B)) = _
    rw [if_neg (h s (by simp)), insG_all (A := r) fun t ht => h t (by simp [ht])]
    rfl
theorem insG_snoc {α : Type} {f : α → Nat} {x s : α} : ∀ {A : List α}, (∃ t ∈ A, f x < f t) → insG f x (A ++ [s]) = insG f x A ++ [s]
  | [], h => by obtain ⟨t, ht, _⟩ := h; cases ht
  | u :: r, h => by
    show (if f x < f u then x :: u :: (r ++ [s]) else u :: insG f x (r ++ [s])) = (if f x < f u then x :: u :: r else u :: insG f x r) ++ [s]
    split
    · rfl
    · rename_i hu
      rw [insG_snoc (A := r) (by
        obtain ⟨t, ht, hlt⟩ := h
        rcases List.mem_cons.1 ht with rfl | ht
        · exact absurd hlt hu
        · exact ⟨t, ht, hlt⟩)]
      rfl
theorem insG_map {α β : Type} {f : β → Nat} (g : α → β) {x : α} : ∀ {A : List α}, (insG (fun a => f (g a)) x A).map g = insG f (g x) (A.map g)
  | [] => rfl
  | u :: r => by
    show List.map g (if f (g x) < f (g u) then _ else _) = if f (g x) < f (g u) then _ else _
    split
    · rfl
    · rw [List.map_cons, insG_map (A := r)]
theorem insG_len {α : Type} {f : α → Nat} {x : α} : ∀ {A : List α}, (insG f x A).length = A.length + 1
  | [] => rfl
  | u :: r => by
    show List.length (if f x < f u then _ else _) = _
    split
    · rfl
    · rw [List.length_cons, insG_len (A := r)]; rfl

def openF (S : List Sl) (n owner : Nat) (bs : List Nat) : Int × List Sl := if vacF S n < 0 then (8, []) else (0, insG (·.slot) ⟨(vacF S n).toNat, owner, 0, bs⟩ S)

theorem vacF_nat (S : List Sl) (n : Nat) : vacF S n < 0 ∨ ∃ k : Nat, vacF S n = (k : Int) := by
  unfold vacF
  split
  · exact .inr ⟨_, rfl⟩
  · exact .inl (by decide)

section
variable {w : World}

set_option maxHeartbeats 1000000 in
theorem opened_calls {Z : List (Sl × Value)} {s bv : Value} {D : Nat → Prop} (hs : SlD w s Z D) (hn1 : Z.length < 1048576) (hD : ∀ b, D b → b < w.heap.size) (n : Nat) (hn64 : n ≤ 1048576) (ow : Nat) (bs : List Nat) (hb : SliD w bv bs.length (icells bs) D) (hbl : bs.length ≤ 1048576) :
    Calls cx.P 56 #[s, .int .i64 (n : Nat), .int .i64 (ow : Nat), bv] w (Ret fun v w' => Tr [] w w' ∧ SlotsQ w w' D v (openF (Z.map (·.1)) n ow bs).1 (openF (Z.map (·.1)) n ow bs).2) := by
  have hs0 := hs
  obtain ⟨hn, ⟨a, c, rfl, _, hsl⟩, hblk⟩ := hs
  obtain ⟨ab, cb, rfl⟩ := hb.slice
  refine calls_body cx_ok (args := [.slice a Z.length c, .int .i64 (n : Nat), .int .i64 (ow : Nat), .slice ab bs.length cb]) Tryd.func56 rfl 60 rfl rfl [.cell 8 34] rfl ?_
  intro b8 w1 n1
  have e1 := n1.num; have z1 := n1.size
  have B8 : Blk w1 b8 [.slice none 0 0, .int .i64 0] 34 := n1.blk
  have hvac := vacant_calls (Z.map (·.1)) _ (hs0.ext n1.tr).slr n hn64
  refine call hvac ?_
  rintro _ _ ⟨rfl, rfl⟩
  unfold openF
  rcases vacF_nat (Z.map (·.1)) n with hv | ⟨k, hv⟩
  · rw [if_pos hv]
    refine ⟨fun _ => ?_, fun h => absurd hv h⟩
    refine ⟨_, rfl, _, _, B8, rfl, by show 0 + 2 ≤ 2; decide, rfl, fun w2 u2 => ?_⟩
    exact ⟨_, u2.blk.all, rfl, u2.ext n1.tr (by omega), SlotsQ.err (by decide) _⟩
  rw [hv, if_neg (by omega)]
  refine ⟨fun h => absurd h (by omega), fun _ => ?_⟩
  obtain ⟨x, hx⟩ : ∃ x : Sl × Value, x = (⟨k, ow, 0, bs⟩, .slice ab bs.length cb) := ⟨_, rfl⟩
  refine ⟨_, rfl, fun b11 w2 n2 => ?_⟩
  have e2 := n2.num; have z2 := n2.size
  refine ⟨_, _, n2.blk, rfl, by show 0 + 4 ≤ 4; decide, rfl, fun w3 u3 => ?_⟩
  have z3 := u3.size
  have B11 : Blk w3 b11 (zcells x) 54 := by rw [hx]; exact Upd.whole u3 rfl rfl
  have t13 : Tr [] w1 w3 := u3.ext n2.tr (by omega)
  have t03 : Tr [] w w3 := n1.tr.ext t13
  obtain ⟨dn, hdn⟩ : ∃ dn : Nat → Bool, dn = fun i => (Z.take i).any fun s => decide (k < s.1.slot) := ⟨_, rfl⟩
  obtain ⟨fs, hfs⟩ : ∃ fs : Sl × Value → Nat, fs = fun z => z.1.slot := ⟨_, rfl⟩
  have hxk : fs x = k := by rw [hfs, hx]
  obtain ⟨G, hG⟩ : ∃ G : Nat → List (Sl × Value), G = fun i => if dn i = true then insG fs x (Z.take i) else Z.take i := ⟨_, rfl⟩
  have hGl : ∀ i, i ≤ Z.length → (G i).length ≤ 1048576 ∧ (dn i = false → (G i).length < 1048576) := fun i hi => by
    rw [hG]; simp only
    split
    · rename_i hd; rw [insG_len, List.length_take]; exact ⟨by omega, fun h => by rw [h] at hd; cases hd⟩
    · rw [List.length_take]; exact ⟨by omega, fun _ => by omega⟩
  have hbx : x.1.blocks.length ≤ 1048576 ∧ SliD w x.2 x.1.blocks.length (icells x.1.blocks) D := by rw [hx]; exact ⟨hbl, hb⟩
  have hG0 : G 0 = [] := by rw [hG]; simp only; rw [hdn]; simp
  have hO0 : Out w3 D w3.heap.size (.slice none 0 0) (G 0) := by rw [hG0]; exact Out.nil fun b hb => by have := hD b hb; omega
  refine loop_rule cx_ok (α := Nat × Value × Bool) (fun (⟨i, ov, d⟩ : Nat × Value × Bool) W => i ≤ Z.length ∧ Tr [] w3 W ∧ Out W D w3.heap.size ov (G i) ∧ dn i = d)
    (fun (⟨i, ov, d⟩ : Nat × Value × Bool) => [(0, .slice a Z.length c), (8, .pointer (some ⟨b8, 0, none⟩)), (9, .int .i64 (k : Nat)), (10, ov), (11, .pointer (some ⟨b11, 0, none⟩)), (12, .bool d), (13, .int .i64 i)]) (fun x => Z.length - x.1) (0, .slice none 0 0, false)
    ⟨rfl, rfl, rfl, rfl, rfl, rfl, rfl, trivial⟩ ⟨by omega, Tr.refl _ _, hO0, by rw [hdn]; rfl⟩ ?_
  rintro ⟨i, ov, d⟩ W ⟨hi, hW, hO, hd⟩
  have hGi := hGl i hi
  -- one element more
  have more : ∀ (W : World) (ov : Value) (Z0 : List (Sl × Value)) (x : Sl × Value) (b o : Nat) (K : Value → World → Prop), x.1.blocks.length ≤ 1048576 ∧ SliD w x.2 x.1.blocks.length (icells x.1.blocks) D → Z0.length ≤ 1048576 → Tr [] w3 W → Out W D w3.heap.size ov Z0 → Cells W b o (zcells x) →
      (∀ v' W', Out W' D w3.heap.size v' (Z0 ++ [x]) → Tr [] w3 W' → K v' W') → RunV cx.P (Builtin.append_ #[29, 29] 29 #[ov, .slice (some ⟨b, o, none⟩) 1 1]) W K := by
    intro W ov Z0 x b o K hbx hl hW hO hc hK
    exact hO.append hl ⟨hbx.1, hbx.2.ext (t03.ext hW)⟩ b o 1 _ hc fun v' W' hO' ht => hK v' W' hO' (ht w3 (Nat.le_refl _) hW)
  have hw : ∀ i : Nat, i < Z.length → IntKind.i64.wrap ((i : Int) + 1) = ((i + 1 : Nat) : Int) := fun i hi => by rw [w64 (by omega)]; omega
  refine ⟨fun hlt => ?_, fun hge => ?_⟩
  · have hix : i < Z.length := by omega
    obtain ⟨g, o, rfl, hg, hc⟩ := hsl.resolve_left (fun hh => by have := hh.2; omega)
    obtain ⟨z, hz⟩ : ∃ z, Z[i]? = some z := ⟨_, List.getElem?_eq_getElem hix⟩
    have htk := take_snoc hz
    have hcz : ∀ W, Tr [] w3 W → Cells W g (o + i * 4) (zcells z) := fun W hW => (zcells_at hz hc).ext (t03.ext hW)
    have hbz : z.1.blocks.length ≤ 1048576 ∧ SliD w z.2 z.1.blocks.length (icells z.1.blocks) D := hblk z (List.mem_of_getElem? hz)
    have hdst : dn (i + 1) = (dn i || decide (k < z.1.slot)) := by rw [hdn]; simp only; rw [htk, List.any_append]; simp
    cases d with
    | true =>
      rw [hd, Bool.true_or] at hdst
      have hst : G i ++ [z] = G (i + 1) := by
        rw [hG]; simp only
        rw [hd, hdst, htk, if_pos rfl, if_pos rfl, insG_snoc]
        rw [hdn] at hd
        obtain ⟨t, ht, hlt⟩ := List.any_eq_true.1 hd
        exact ⟨t, ht, by rw [hxk, hfs]; exact of_decide_eq_true hlt⟩
      refine ⟨i, rfl, hix, zcells z, hcz W hW, rfl, _, rfl, fun b2 W2 n2 => ?_⟩
      refine more W2 ov _ z b2 0 _ hbz hGi.1 (hW.ext n2.tr) (hO.ext n2.tr) n2.blk.all fun v' W3 hO3 ht3 => ?_
      rw [hst] at hO3
      exact ⟨_, hw i hix, rfl, (i + 1, v', _), ⟨rfl, rfl, rfl, rfl, rfl, rfl, rfl, trivial⟩, ⟨hix, ht3, hO3, hdst⟩, by show Z.length - (i + 1) < Z.length - i; omega⟩
    | false =>
      rw [hd, Bool.false_or] at hdst
      have hall : ∀ s ∈ Z.take i, ¬ fs x < fs s := fun s hs hlt => by
        rw [hdn] at hd
        have := List.any_eq_false.1 hd s hs
        rw [hxk, hfs] at hlt
        have hlt : k < s.1.slot := hlt
        simp at this
        omega
      have hGd : G i = Z.take i := by rw [hG]; simp only; rw [hd]; rfl
      have c0 : W.cell? ⟨g, o + i * 4 + 0, none⟩ = some (.int .i64 (z.1.slot : Nat)) := hcz W hW 0 _ rfl
      refine ⟨i, rfl, hix, _, c0, fun hk => ?_, fun hk => ?_⟩
      · rw [decide_eq_true (by omega)] at hdst
        have hst : (G i ++ [x]) ++ [z] = G (i + 1) := by
          rw [hGd, hG]; simp only
          rw [hdst, htk, if_pos rfl, insG_all hall]
          show _ = _ ++ (if fs x < fs z then [x, z] else _)
          rw [if_pos (by rw [hxk, hfs]; show k < z.1.slot; omega)]
          simp
        refine ⟨zcells x, (B11.ext hW).all, by rw [hx]; rfl, _, fill_one rfl (by rw [hx]; rfl), fun b2 W2 n2 => ?_⟩
        refine more W2 ov _ x b2 0 _ hbx hGi.1 (hW.ext n2.tr) (hO.ext n2.tr) n2.blk.all fun v' W3 hO3 ht3 => ?_
        refine ⟨i, rfl, hix, zcells z, hcz W3 ht3, rfl, _, rfl, fun b4 W4 n4 => ?_⟩
        refine more W4 v' _ z b4 0 _ hbz (by rw [List.length_append]; have := hGi.2 hd; show _ + 1 ≤ _; omega) (ht3.ext n4.tr) (hO3.ext n4.tr) n4.blk.all fun v5 W5 hO5 ht5 => ?_
        rw [hst] at hO5
        exact ⟨_, hw i hix, rfl, (i + 1, v5, _), ⟨rfl, rfl, rfl, rfl, rfl, rfl, rfl, trivial⟩, ⟨hix, ht5, hO5, hdst⟩, by show Z.length - (i + 1) < Z.length - i; omega⟩
      · rw [decide_eq_false (by omega)] at hdst
        have hst : G i ++ [z] = G (i + 1) := by
          rw [hGd, hG]; simp only
          rw [hdst, htk, if_neg (by decide)]
        refine ⟨i, rfl, hix, zcells z, hcz W hW, rfl, _, rfl, fun b2 W2 n2 => ?_⟩
        refine more W2 ov _ z b2 0 _ hbz hGi.1 (hW.ext n2.tr) (hO.ext n2.tr) n2.blk.all fun v' W3 hO3 ht3 => ?_
        rw [hst] at hO3
        exact ⟨_, hw i hix, rfl, (i + 1, v', _), ⟨rfl, rfl, rfl, rfl, rfl, rfl, rfl, trivial⟩, ⟨hix, ht3, hO3, hdst⟩, by show Z.length - (i + 1) < Z.length - i; omega⟩
  · have hix : i = Z.length := by omega
    have fin : ∀ (W : World) (ov : Value), Tr [] w3 W → Out W D w3.heap.size ov (insG fs x Z) → ∀ w5, Upd W b8 (.cells (splice [.slice none 0 0, .int .i64 0] 0 2 [ov, .int .i64 0]).toArray 34) w5 → Tr [] w w5 ∧ SlotsQ w w5 D (.agg #[ov, .int .i64 0]) 0 (insG (·.slot) ⟨k, ow, 0, bs⟩ (Z.map (·.1))) := by
      intro W ov hW hO w5 u5
      have zW := hW.size; have z5 := u5.size
      refine ⟨u5.ext (t03.ext hW) (by omega), ov, rfl, fun _ => ?_, Row.one hO.row⟩
      refine ⟨insG fs x Z, ?_, ((hO.tr u5.tr (fun b hb => by simp at hb; subst hb; exact ⟨fun hd => by have := hD _ hd; omega, by omega⟩)).fin (by rw [insG_len]; omega)).mono fun b hb => hb.imp_right fun h => ⟨by omega, h.2⟩⟩
      rw [hfs]
      have := insG_map (f := fun s : Sl => s.slot) (g := fun z : Sl × Value => z.1) (x := x) (A := Z)
      rw [this, hx]
    cases d with
    | true =>
      have hst : G i = insG fs x Z := by rw [hG]; simp only; rw [hd, hix, List.take_length]; rfl
      rw [hst] at hO
      obtain ⟨ao, co, rfl⟩ := Row.slice hO.row
      refine ⟨_, rfl, _, _, B8.ext (t13.ext hW), rfl, by show 0 + 2 ≤ 2; decide, rfl, fun w5 u5 => ?_⟩
      exact ⟨_, u5.blk.all, rfl, fin W _ hW hO w5 u5⟩
    | false =>
      have hall : ∀ s ∈ Z, ¬ fs x < fs s := fun s hs hlt => by
        rw [hdn] at hd
        simp only [hix, List.take_length] at hd
        have := List.any_eq_false.1 hd s hs
        rw [hxk, hfs] at hlt
        have hlt : k < s.1.slot := hlt
        simp at this
        omega
      have hGd : G i = Z := by rw [hG]; simp only; rw [hd, hix, List.take_length]; rfl
      have hst : Z ++ [x] = insG fs x Z := by
        have := insG_all (B := []) hall
        rw [List.append_nil] at this
        rw [this]; rfl
      rw [hGd] at hO
      refine ⟨zcells x, (B11.ext hW).all, by rw [hx]; rfl, _, fill_one rfl (by rw [hx]; rfl), fun b2 W2 n2 => ?_⟩
      refine more W2 ov _ x b2 0 _ hbx (by omega) (hW.ext n2.tr) (hO.ext n2.tr) n2.blk.all fun v' W3 hO3 ht3 => ?_
      rw [hst] at hO3
      obtain ⟨ao, co, rfl⟩ := Row.slice hO3.row
      refine ⟨_, rfl, _, _, B8.ext (t13.ext ht3), rfl, by show 0 + 2 ≤ 2; decide, rfl, fun w5 u5 => ?_⟩
      exact ⟨_, u5.blk.all, rfl, fin W3 _ ht3 hO3 w5 u5⟩

end

end Go.Proofs.YtlfolinjajjgjaaDoor

/- The specification of the slots: Added, Do. -/
namespace Go.Proofs.YtlfolinjajjgjaaDoor
open Go.E

def addB (s : Sl) (x : Nat) : Sl := { s with blocks := s.blocks ++ [x] }
def refAdded (S : List Sl) (n : Nat) (owner x : Int) : Int × List Sl :=
  if badA owner x then (1, []) else if twiceA S x then (6, []) else if stampedA S owner then (4, []) else
    match S.findIdx? (roomA owner) with
    | some a => (0, S.set a (addB (S.getD a ⟨0, 0, 0, []⟩) x.toNat))
    | none => openF S n owner.toNat [x.toNat]

section
variable {w : World}

set_option maxHeartbeats 2000000 in
theorem Added_calls {Z : List (Sl × Value)} {s : Value} {D : Nat → Prop} (hs : SlD w s Z D) (hn1 : Z.length < 1048576) (hb6 : ∀ z ∈ Z, z.1.blocks.length < 1048576) (hD : ∀ b, D b → b < w.heap.size) (n : Nat) (hn64 : n ≤ 1048576) (owner x : Int) :
    Calls cx.P 33 #[s, .int .i64 (n : Nat), .int .i64 owner, .int .i64 x] w (Ret fun v w' => Tr [] w w' ∧ SlotsQ w w' D v (refAdded (Z.map (·.1)) n owner x).1 (refAdded (Z.map (·.1)) n owner x).2) := by
  have hs0 := hs
  obtain ⟨hn, ⟨a, c, rfl, _, hsl⟩, hblk⟩ := hs
  refine calls_body cx_ok (args := [.slice a Z.length c, .int .i64 (n : Nat), .int .i64 owner, .int .i64 x]) Tryd.func33 rfl 105 rfl rfl [.cell 8 34] rfl ?_
  intro b8 w1 n1
  have e1 := n1.num; have z1 := n1.size
  have B8 : Blk w1 b8 [.slice none 0 0, .int .i64 0] 34 := n1.blk
  obtain ⟨S, hS⟩ : ∃ S, S = Z.map (·.1) := ⟨_, rfl⟩
  have hslr := (hs0.ext n1.tr).slr
  rw [← hS] at hslr ⊢
  obtain ⟨R, hR⟩ : ∃ R, R = refAdded S n owner x := ⟨_, rfl⟩
  rw [← hR]
  have hadd : R = if badA owner x then ((1 : Int), []) else if twiceA S x then (6, []) else if stampedA S owner then (4, []) else
    match S.findIdx? (roomA owner) with
    | some a => (0, S.set a (addB (S.getD a ⟨0, 0, 0, []⟩) x.toNat))
    | none => openF S n owner.toNat [x.toNat] := by rw [hR]; rfl
  have err : ∀ (e : Int), e ≠ 0 → R = (e, []) → ∀ w2, Upd w1 b8 (.cells (splice [.slice none 0 0, .int .i64 0] 0 2 [.slice none 0 0, .int .i64 e]).toArray 34) w2 → Tr [] w w2 ∧ SlotsQ w w2 D (.agg #[.slice none 0 0, .int .i64 e]) R.1 R.2 := by
    intro e he hRe w2 u2
    rw [hRe]
    exact ⟨u2.ext n1.tr (by omega), SlotsQ.err he _⟩
  refine ⟨fun h1 => ?_, fun h1 => ⟨fun h2 => ?_, fun h2 => ⟨fun h3 => ?_, fun h3 => ?_⟩⟩⟩
  · refine ⟨_, rfl, _, _, B8, rfl, by show 0 + 2 ≤ 2; decide, rfl, fun w2 u2 => ?_⟩
    exact ⟨_, u2.blk.all, rfl, err 1 (by decide) (by rw [hadd, if_pos (by simp [badA, h1])]) w2 u2⟩
  · refine ⟨_, rfl, _, _, B8, rfl, by show 0 + 2 ≤ 2; decide, rfl, fun w2 u2 => ?_⟩
    exact ⟨_, u2.blk.all, rfl, err 1 (by decide) (by rw [hadd, if_pos (by simp [badA, h2])]) w2 u2⟩
  · refine ⟨_, rfl, _, _, B8, rfl, by show 0 + 2 ≤ 2; decide, rfl, fun w2 u2 => ?_⟩
    exact ⟨_, u2.blk.all, rfl, err 1 (by decide) (by rw [hadd, if_pos (by simp [badA, h3])]) w2 u2⟩
  refine call (Right07_calls' x w1) ?_
  rintro _ _ ⟨rfl, rfl⟩
  cases hrp : rightP x with
  | false =>
    refine ⟨_, rfl, _, _, B8, rfl, by show 0 + 2 ≤ 2; decide, rfl, fun w2 u2 => ?_⟩
    exact ⟨_, u2.blk.all, rfl, err 1 (by decide) (by rw [hadd, if_pos (by simp [badA, hrp])]) w2 u2⟩
  | true =>
  have hgood : badA owner x = false := by
    unfold badA
    rw [hrp, decide_eq_false (by omega)]
    rfl
  rw [if_neg (by rw [hgood]; decide)] at hadd
  obtain ⟨ow, rfl⟩ := Int.eq_ofNat_of_zero_le (show 0 ≤ owner by omega)
  have hx0 : 0 ≤ x ∧ x < 4294967296 := by
    unfold rightP at hrp
    have := of_decide_eq_true hrp
    omega
  obtain ⟨xx, rfl⟩ := Int.eq_ofNat_of_zero_le hx0.1
  refine call (Has_calls S _ hslr (xx : Nat)) ?_
  rintro _ _ ⟨rfl, rfl⟩
  cases htw : twiceA S (xx : Nat) with
  | true =>
    refine ⟨_, rfl, _, _, B8, rfl, by show 0 + 2 ≤ 2; decide, rfl, fun w2 u2 => ?_⟩
    exact ⟨_, u2.blk.all, rfl, err 6 (by decide) (by rw [hadd, if_pos htw]) w2 u2⟩
  | false =>
  rw [if_neg (by rw [htw]; decide)] at hadd
  have hSl : S.length = Z.length := by rw [hS]; simp
  refine loop_rule cx_ok (α := Nat) (fun i W => i ≤ Z.length ∧ w1 = W ∧ stampedA (S.take i) (ow : Nat) = false)
    (fun i => [(0, .slice a Z.length c), (1, .int .i64 (n : Nat)), (2, .int .i64 (ow : Nat)), (3, .int .i64 (xx : Nat)), (8, .pointer (some ⟨b8, 0, none⟩)), (9, .int .i64 (atF S (ow : Nat) i)), (10, .int .i64 i)]) (fun i => Z.length - i) 0
    ⟨rfl, rfl, rfl, rfl, rfl, rfl, rfl, trivial⟩ ⟨by omega, rfl, rfl⟩ ?_
  rintro i _ ⟨hi, rfl, hst⟩
  refine ⟨fun hlt => ?_, fun hge => ?_⟩
  · have hix : i < Z.length := by omega
    obtain ⟨g, o, rfl, hg, hc⟩ := hsl.resolve_left (fun hh => by have := hh.2; omega)
    obtain ⟨z, hz⟩ : ∃ z, Z[i]? = some z := ⟨_, List.getElem?_eq_getElem hix⟩
    have hcz : Cells w1 g (o + i * 4) (zcells z) := (zcells_at hz hc).ext n1.tr
    have hSz : S[i]? = some z.1 := by rw [hS, List.getElem?_map, hz]; rfl
    have htk := take_snoc hSz
    have c1 : w1.cell? ⟨g, o + i * 4 + 1, none⟩ = some (.int .i64 (z.1.owner : Nat)) := hcz 1 _ rfl
    have c2 : w1.cell? ⟨g, o + i * 4 + 2, none⟩ = some (.int .i64 (z.1.stamp : Nat)) := hcz 2 _ rfl
    obtain ⟨ab, cb, hbv⟩ := (hblk z (List.mem_of_getElem? hz)).2.slice
    have c3 : w1.cell? ⟨g, o + i * 4 + 3, none⟩ = some (.slice ab z.1.blocks.length cb) := by rw [← hbv]; exact hcz 3 _ rfl
    have hw : IntKind.i64.wrap ((i : Int) + 1) = ((i + 1 : Nat) : Int) := by rw [w64 (by omega)]; omega
    have hat := atF_step (S := S) (owner := (ow : Nat)) (by omega) htk
    have hss := stF_step (S := S) (owner := (ow : Nat)) htk
    have next : ∀ q : Int, q = atF S (ow : Nat) (i + 1) → some (Value.int .i64 q) = some (Value.int .i64 (atF S (ow : Nat) (i + 1))) := fun q hq => by rw [hq]
    refine ⟨i, rfl, hix, _, c1, fun he => ?_, fun hne => ?_⟩
    · refine ⟨i, rfl, hix, _, c2, fun h0 => ?_, fun h0 => ?_⟩
      · have hs' : stampedA (S.take (i + 1)) (ow : Nat) = false := by
          rw [hss, hst, decide_eq_true he, decide_eq_false (by omega)]; rfl
        refine ⟨i, rfl, hix, _, c1, fun _ => ?_, fun hne => absurd he hne⟩
        refine ⟨fun ha => ?_, fun ha => ?_⟩
        · refine ⟨i, rfl, hix, _, c3, ⟨fun hl => ?_, fun hl => ?_⟩⟩
          · have hro : roomA (ow : Nat) z.1 = true := by unfold roomA; rw [decide_eq_true he, decide_eq_true (by omega)]; rfl
            exact ⟨_, hw, rfl, i + 1, ⟨rfl, rfl, rfl, rfl, rfl, next _ (by rw [hat, if_pos ⟨ha, hro⟩]), rfl, trivial⟩, ⟨hix, rfl, hs'⟩, by omega⟩
          · have hro : roomA (ow : Nat) z.1 = false := by unfold roomA; rw [decide_eq_false (show ¬ z.1.blocks.length < 6 by omega), Bool.and_false]
            exact ⟨_, hw, rfl, i + 1, ⟨rfl, rfl, rfl, rfl, rfl, next _ (by rw [hat, if_neg (by rw [hro]; simp)]), rfl, trivial⟩, ⟨hix, rfl, hs'⟩, by omega⟩
        · exact ⟨_, hw, rfl, i + 1, ⟨rfl, rfl, rfl, rfl, rfl, next _ (by rw [hat, if_neg (fun hh => ha hh.1)]), rfl, trivial⟩, ⟨hix, rfl, hs'⟩, by omega⟩
      · have hs' : stampedA S (ow : Nat) = true := by
          unfold stampedA
          exact List.any_eq_true.2 ⟨z.1, List.mem_of_getElem? hSz, by rw [decide_eq_true he, decide_eq_true (by omega)]; rfl⟩
        refine ⟨_, rfl, _, _, B8, rfl, by show 0 + 2 ≤ 2; decide, rfl, fun w2 u2 => ?_⟩
        exact ⟨_, u2.blk.all, rfl, err 4 (by decide) (by rw [hadd, if_pos hs']) w2 u2⟩
    · have hs' : stampedA (S.take (i + 1)) (ow : Nat) = false := by
        rw [hss, hst, decide_eq_false hne]; rfl
      have hro : roomA (ow : Nat) z.1 = false := by unfold roomA; rw [decide_eq_false hne]; rfl
      refine ⟨i, rfl, hix, _, c1, fun he => absurd he hne, fun _ => ?_⟩
      exact ⟨_, hw, rfl, i + 1, ⟨rfl, rfl, rfl, rfl, rfl, next _ (by rw [hat, if_neg (by rw [hro]; simp)]), rfl, trivial⟩, ⟨hix, rfl, hs'⟩, by omega⟩
  have hiS : i = S.length := by omega
  rw [hiS, List.take_length] at hst
  rw [if_neg (by rw [hst]; decide)] at hadd
  refine ⟨[], rfl, fun b2 w2 n2 => ?_⟩
  have e2 := n2.num
  have hD1 : ∀ b, D b → b < w1.heap.size := fun b hb => by have := hD b hb; omega
  refine Out.copy n2 hD1 (hs0.ext n1.tr) _ fun ov w3 hO3 t3 => ?_
  have z3 := t3.size
  have hatS : atF S (ow : Nat) i = match S.findIdx? (roomA (ow : Nat)) with
    | some a => (a : Int)
    | none => -1 := by unfold atF; first | (rw [hiS, List.take_length]; done) | (rw [hiS, List.take_length]; rfl)
  rw [hatS]
  cases hfi : S.findIdx? (roomA (ow : Nat)) with
  | some q =>
    rw [hfi] at hadd
    simp only at hadd
    obtain ⟨hqS, hroom, _⟩ := List.findIdx?_eq_some_iff_getElem.1 hfi
    have hqx : q < Z.length := by omega
    obtain ⟨z, hz⟩ : ∃ z, Z[q]? = some z := ⟨_, List.getElem?_eq_getElem hqx⟩
    have hSz : S[q]? = some z.1 := by rw [hS, List.getElem?_map, hz]; rfl
    rw [List.getD_eq_getElem?_getD, hSz] at hadd
    simp only [Option.getD_some] at hadd
    obtain ⟨g, o, rfl, hg, hc⟩ := hsl.resolve_left (fun hh => by have := hh.2; omega)
    have hbz := hblk z (List.mem_of_getElem? hz)
    have hcz : Cells w1 g (o + q * 4) (zcells z) := (zcells_at hz hc).ext n1.tr
    refine ⟨fun _ => ?_, fun h => absurd (Int.natCast_nonneg q) h⟩
    refine ⟨[], rfl, fun b4 w4 n4 => ?_⟩
    have e4 := n4.num; have z4 := n4.size
    have t4 : Tr [] w1 w4 := t3.ext n4.tr
    have c3 : w4.cell? ⟨g, o + q * 4 + 3, none⟩ = some z.2 := (hcz.ext t4) 3 _ rfl
    refine ⟨q, rfl, hqx, _, c3, ?_⟩
    have hbl := hb6 z (List.mem_of_getElem? hz)
    refine append_gen (x := ⟨1, 24, false, [.slice none 0 0], .slice 3⟩) (y := ⟨1, 8, false, [.int .i64 0], .int .i64⟩) rfl rfl rfl (by decide) (row_empty n4) (hbz.2.ext (n1.tr.ext t4)).sli (by rw [icells_len]; show _ = _ * 1; omega) (icells_one _) (by omega) (by decide) ?_
    intro v5 w5 hr5 t5 hat5
    have z5 := t5.size
    have t5' : Tr [] w3 w5 := n4.tr.trans t5 (fun _ h => h) (fun b hb hlt => by simp [Value.ownBlock] at hb; omega)
    have hv5 : ∀ b, v5.ownBlock = some b → w3.heap.size ≤ b := fun b hb => by
      rcases hat5 with e | e
      · rw [e] at hb; simp [Value.ownBlock] at hb; omega
      · rw [e] at hb; have := Option.some.inj hb; omega
    rw [Nat.zero_add, List.nil_append] at hr5
    refine ⟨_, rfl, fun b6 w6 n6 => ?_⟩
    have e6 := n6.num; have z6 := n6.size
    have B6 : Blk w6 b6 [.int .i64 (xx : Nat)] 3 := n6.blk
    refine append_own cx_ok (x := ⟨1, 24, false, [.slice none 0 0], .slice 3⟩) (y := ⟨1, 8, false, [.int .i64 0], .int .i64⟩) rfl rfl rfl (by decide) (Row.tr hr5 n6.tr (by simp)) b6 0 1 1 [.int .i64 (xx : Nat)] rfl B6.all rfl (by omega) (by decide) ?_
    intro v7 w7 hr7 t7 hat7 _
    have z7 := t7.size
    have t7' : Tr [] w3 w7 := (t5'.ext n6.tr).trans t7 (fun _ h => h) (fun b hb hlt => by have := hv5 b (by simpa using hb); omega)
    have hv7 : ∀ b, v7.ownBlock = some b → w3.heap.size ≤ b := fun b hb => by
      rcases hat7 with e | e
      · exact hv5 b (e ▸ hb)
      · rw [e] at hb; have := Option.some.inj hb; omega
    have hic : icells z.1.blocks ++ [Value.int .i64 (xx : Nat)] = icells (z.1.blocks ++ [xx]) := by simp [icells]
    rw [hic] at hr7
    -- the store into the list
    have hO7 := hO3.ext t7'
    have hrow := hO7.row
    rcases Row.elem hrow with ⟨_, h0⟩ | ⟨g3, cap, rfl, _, _, _⟩
    · omega
    refine ⟨q, rfl, hqx, ?_⟩
    have hg3 : g3 < w3.heap.size := Row.lt hO3.row rfl
    have hg3' : w1.heap.size ≤ g3 := hO3.own g3 rfl
    obtain ⟨z', hz'⟩ : ∃ z' : Sl × Value, z' = (addB z.1 xx, v7) := ⟨_, rfl⟩
    refine Row.store1 hrow rfl (by rw [zc_len]; show 0 + q * 4 + 3 < _; omega) (Row.one hr7) fun w8 t8 hr8 => ?_
    rw [show 0 + q * 4 + 3 = q * 4 + 3 by omega, zc_set (z' := z') hz (by decide) (by rw [hz']; rfl)] at hr8
    have z8 := t8.size
    have t8' : Tr [] w1 w8 := (t3.ext t7').trans t8 (fun _ h => h) (fun b hb hlt => by simp at hb; omega)
    refine ⟨_, rfl, _, _, B8.ext t8', rfl, by show 0 + 2 ≤ 2; decide, rfl, fun w9 u9 => ?_⟩
    have z9 := u9.size
    have hb8 : ∀ b, b ∈ [b8] → ¬ D b := fun b hb hd => by simp at hb; subst hb; have := hD _ hd; omega
    refine ⟨_, u9.blk.all, rfl, u9.ext (n1.tr.ext t8') (by omega), ?_⟩
    rw [hadd]
    refine ⟨_, rfl, fun _ => ⟨Z.set q z', ?_, ⟨by rw [List.length_set]; exact hn, ?_, ?_⟩⟩, rfl⟩
    · rw [hS, List.map_set, hz']; rfl
    · have hr9 := Row.tr hr8 u9.tr (fun b hb hm => by simp [Value.ownBlock] at hb hm; omega)
      rw [List.length_set]
      exact (Row.slid hr9).mono fun b hb => .inr (by simp [Value.ownBlock] at hb; omega)
    · intro y hy
      rcases List.mem_or_eq_of_mem_set hy with hy | rfl
      · have h1 := hblk y hy
        refine ⟨h1.1, ((h1.2.ext (n1.tr.ext t8')).tr u9.tr hb8).mono fun b hb => .inl hb⟩
      · rw [hz']
        have hr9 := (Row.tr (Row.tr hr7 t8 (fun b hb hm => by have := hv7 b hb; simp at hm; omega)) u9.tr (fun b hb hm => by have := hv7 b hb; simp at hm; omega))
        have hbl1 : (addB z.1 xx).blocks.length = z.1.blocks.length + 1 := by simp [addB]
        refine ⟨by rw [hbl1]; omega, ?_⟩
        show SliD w9 v7 (addB z.1 xx).blocks.length (icells (addB z.1 xx).blocks) _
        rw [hbl1]
        exact (Row.slid hr9).mono fun b hb => .inr ⟨by have := hv7 b hb; omega, Row.lt hr9 hb⟩
  | none =>
    rw [hfi] at hadd
    simp only at hadd
    refine ⟨fun h => absurd h (by decide), fun _ => ?_⟩
    refine ⟨_, rfl, fun b4 w4 n4 => ?_⟩
    have e4 := n4.num; have z4 := n4.size
    have B4 : Blk w4 b4 [.int .i64 (xx : Nat)] 3 := n4.blk
    obtain ⟨D', hD'⟩ : ∃ D' : Nat → Prop, D' = fun b => D b ∨ (w1.heap.size ≤ b ∧ b < w4.heap.size) := ⟨_, rfl⟩
    have hs4 : SlD w4 ov Z D' := by
      rw [hD']
      exact ((hO3.ext n4.tr).fin hn)
    have hb4 : SliD w4 (.slice (some ⟨b4, 0, none⟩) 1 1) 1 (icells [xx]) D' := ⟨_, 1, rfl, Nat.le_refl _, .inr ⟨b4, 0, rfl, by rw [hD']; exact .inr (by omega), B4.all⟩⟩
    refine call (opened_calls hs4 hn1 (fun b hb => by rw [hD'] at hb; rcases hb with hb | hb; have := hD1 b hb; omega; omega) n hn64 ow [xx] hb4 (by simp)) ?_
    rintro _ w5 ⟨t5, sv, rfl, hq, hone⟩
    have z5 := t5.size
    have t5' : Tr [] w1 w5 := (t3.ext n4.tr).ext t5
    rw [← hS] at hq ⊢
    have hadd' : R = openF S n ow [xx] := by rw [hadd]; simp
    rw [← hadd'] at hq ⊢
    refine ⟨_, _, B8.ext t5', rfl, by show 0 + 2 ≤ 2; decide, by show (E.one sv && (true && true)) = true; rw [hone]; rfl, fun w6 u6 => ?_⟩
    have z6 := u6.size
    refine ⟨_, u6.blk.all, rfl, u6.ext (n1.tr.ext t5') (by omega), sv, rfl, fun h => ?_, hone⟩
    obtain ⟨Z', hZ', hsl'⟩ := hq h
    have hb8 : ∀ b, b ∈ [b8] → ¬ (D' b ∨ (w4.heap.size ≤ b ∧ b < w5.heap.size)) := fun b hb hd => by
      simp at hb; subst hb
      rw [hD'] at hd
      rcases hd with (hd | hd) | hd
      · have := hD _ hd; omega
      · omega
      · omega
    refine ⟨Z', hZ', (hsl'.tr u6.tr hb8).mono fun b hb => ?_⟩
    rw [hD'] at hb
    rcases hb with (hb | hb) | hb
    · exact .inl hb
    · exact .inr (by omega)
    · exact .inr (by omega)

def refDo (S : List Sl) (n : Nat) (kind owner x : Int) : Int × List Sl := if kind = 0 then refClosed S owner else if kind = 1 then refStamped S owner x else refAdded S n owner x

theorem Do_calls {Z : List (Sl × Value)} {s : Value} {D : Nat → Prop} (hs : SlD w s Z D) (hn1 : Z.length < 1048576) (hb6 : ∀ z ∈ Z, z.1.blocks.length < 1048576) (hD : ∀ b, D b → b < w.heap.size) (n : Nat) (hn64 : n ≤ 1048576) (kind owner x : Int) :
    Calls cx.P 9 #[s, .int .i64 (n : Nat), .agg #[.int .i64 kind, .int .i64 owner, .int .i64 x]] w (Ret fun v w' => Tr [] w w' ∧ SlotsQ w w' D v (refDo (Z.map (·.1)) n kind owner x).1 (refDo (Z.map (·.1)) n kind owner x).2) := by
  refine calls_body cx_ok (args := [s, .int .i64 (n : Nat), .agg #[.int .i64 kind, .int .i64 owner, .int .i64 x]]) Tryd.func9 rfl 30 rfl rfl [.cell 6 34] rfl ?_
  intro b5 w1 n1 b6 w2 n2
  have e1 := n1.num; have z1 := n1.size; have e2 := n2.num; have z2 := n2.size
  have t2 : Tr [] w w2 := n1.tr.ext n2.tr
  have B5 : Blk w2 b5 [.int .i64 kind, .int .i64 owner, .int .i64 x] 31 := (show Blk w1 b5 [.int .i64 kind, .int .i64 owner, .int .i64 x] _ from n1.blk).ext n2.tr
  have B6 : Blk w2 b6 [.slice none 0 0, .int .i64 0] 34 := n2.blk
  have hD2 : ∀ b, D b → b < w2.heap.size := fun b hb => by have := hD b hb; omega
  have hs2 := hs.ext t2
  have fin : ∀ (e : Int) (S' : List Sl) (w3 : World) (sv : Value), Tr [] w2 w3 → (e = 0 → ∃ Z, Z.map (·.1) = S' ∧ SlD w3 sv Z fun b => D b ∨ (w2.heap.size ≤ b ∧ b < w3.heap.size)) → E.one sv = true → ∀ w4 o, Upd w3 b6 o w4 → Tr [] w w4 ∧ SlotsQ w w4 D (.agg #[sv, .int .i64 e]) e S' := by
    intro e S' w3 sv t3 hq hone w4 o u4
    have z3 := t3.size; have z4 := u4.size
    refine ⟨u4.ext (t2.ext t3) (by omega), sv, rfl, fun h => ?_, hone⟩
    obtain ⟨Z', hZ', hsl'⟩ := hq h
    refine ⟨Z', hZ', (hsl'.tr u4.tr fun b hb hd => ?_).mono fun b hb => hb.imp_right fun h => ⟨by omega, by omega⟩⟩
    simp at hb; subst hb
    rcases hd with hd | hd
    · have := hD _ hd; omega
    · omega
  refine ⟨_, B5.cell rfl, fun h0 => ?_, fun h0 => ⟨fun h1 => ?_, fun h1 => ?_⟩⟩
  · have hd : refDo (Z.map (·.1)) n kind owner x = refClosed (Z.map (·.1)) owner := by unfold refDo; rw [if_pos h0]
    rw [hd]
    refine ⟨_, B5.cell rfl, ?_⟩
    refine call (Closed_calls hs2 hD2 owner) ?_
    rintro _ w3 ⟨t3, sv, rfl, hq, hone⟩
    refine ⟨_, _, B6.ext t3, rfl, by show 0 + 2 ≤ 2; decide, by show (E.one sv && (true && true)) = true; rw [hone]; rfl, fun w4 u4 => ?_⟩
    exact ⟨_, u4.blk.all, rfl, fin _ _ w3 sv t3 hq hone w4 _ u4⟩
  · have hd : refDo (Z.map (·.1)) n kind owner x = refStamped (Z.map (·.1)) owner x := by unfold refDo; rw [if_neg h0, if_pos h1]
    rw [hd]
    refine ⟨_, B5.cell rfl, _, B5.cell rfl, ?_⟩
    refine call (Stamped_calls hs2 hD2 owner x) ?_
    rintro _ w3 ⟨t3, sv, rfl, hq, hone⟩
    refine ⟨_, _, B6.ext t3, rfl, by show 0 + 2 ≤ 2; decide, by show (E.one sv && (true && true)) = true; rw [hone]; rfl, fun w4 u4 => ?_⟩
    exact ⟨_, u4.blk.all, rfl, fin _ _ w3 sv t3 hq hone w4 _ u4⟩
  · have hd : refDo (Z.map (·.1)) n kind owner x = refAdded (Z.map (·.1)) n owner x := by unfold refDo; rw [if_neg h0, if_neg h1]
    rw [hd]
    refine ⟨_, B5.cell rfl, _, B5.cell rfl, ?_⟩
    refine call (Added_calls hs2 hn1 hb6 hD2 n hn64 owner x) ?_
    rintro _ w3 ⟨t3, sv, rfl, hq, hone⟩
    refine ⟨_, _, B6.ext t3, rfl, by show 0 + 2 ≤ 2; decide, by show (E.one sv && (true && true)) = true; rw [hone]; rfl, fun w4 u4 => ?_⟩
    exact ⟨_, u4.blk.all, rfl, fin _ _ w3 sv t3 hq hone w4 _ u4⟩

end

end Go.Proofs.YtlfolinjajjgjaaDoor

/- The plain law of IntentMatchesSpec: what the calls leave is what the specification says. -/
namespace Go.Proofs.YtlfolinjajjgjaaDoor
open Go.E

theorem slotsN_fm (LS : List (List Nat)) (from_ : Nat) : ∀ n, slotsN LS from_ n = (List.range n).flatMap fun i => slotOf i (LS.getD (from_ + i) [])
  | 0 => rfl
  | n + 1 => by
    rw [List.range_succ, List.flatMap_append, ← slotsN_fm LS from_ n]
    show slotsN LS from_ n ++ slotOf n (LS.getD (from_ + n) []) = _
    simp

def ownW (owner : Int) (ws : List Nat) : Bool := decide (ws.getD 0 0 ≠ 0) && decide ((ws.getD 0 0 : Int) = owner)

theorem each_get {LS : List (List Nat)} {from_ n : Nat} (hfit : from_ + n ≤ LS.length) (owner : Int) (prs : List (Nat × Nat)) : ∀ m, m ≤ n → ∀ i,
    (eachF from_ owner prs LS (slotsN LS from_ m)).getD i [] = if (from_ ≤ i ∧ i < from_ + m) ∧ ownW owner (LS.getD i []) = true then lay (LS.getD i []) prs else LS.getD i []
  | 0, _, i => by rw [if_neg (by omega)]; rfl
  | m + 1, hm, i => by
    have ih := each_get hfit owner prs m (by omega)
    show (eachF from_ owner prs LS (slotsN LS from_ m ++ slotOf m (LS.getD (from_ + m) []))).getD i [] = _
    unfold slotOf
    by_cases h0 : (LS.getD (from_ + m) []).getD 0 0 = 0
    · rw [if_pos h0, List.append_nil, ih]
      by_cases hi : i = from_ + m
      · subst hi
        have : ownW owner (LS.getD (from_ + m) []) = false := by unfold ownW; rw [h0]; rfl
        rw [if_neg (by omega), if_neg (by rw [this]; simp)]
      · have : (from_ ≤ i ∧ i < from_ + m) ↔ (from_ ≤ i ∧ i < from_ + (m + 1)) := by omega
        simp only [this]
    · rw [if_neg h0, eachF_snoc]
      have hl : from_ + m < (eachF from_ owner prs LS (slotsN LS from_ m)).length := by rw [eachF_len]; omega
      by_cases ho : (((LS.getD (from_ + m) []).getD 0 0 : Nat) : Int) = owner
      · rw [if_pos ho, getD_set hl]
        by_cases hi : i = from_ + m
        · subst hi
          have : ownW owner (LS.getD (from_ + m) []) = true := by unfold ownW; rw [decide_eq_true h0, decide_eq_true ho]; rfl
          rw [if_pos rfl, if_pos ⟨by omega, this⟩]
          simp only
          rw [ih, if_neg (by omega)]
        · have : (from_ ≤ i ∧ i < from_ + m) ↔ (from_ ≤ i ∧ i < from_ + (m + 1)) := by omega
          rw [if_neg hi, ih]
          simp only [this]
      · rw [if_neg ho, ih]
        by_cases hi : i = from_ + m
        · subst hi
          have : ownW owner (LS.getD (from_ + m) []) = false := by unfold ownW; rw [decide_eq_false ho, Bool.and_false]
          rw [if_neg (by omega), if_neg (by rw [this]; simp)]
        · have : (from_ ≤ i ∧ i < from_ + m) ↔ (from_ ≤ i ∧ i < from_ + (m + 1)) := by omega
          simp only [this]

theorem flatMap_cong {α β : Type} {f g : α → List β} : ∀ {l : List α}, (∀ a ∈ l, f a = g a) → l.flatMap f = l.flatMap g
  | [], _ => rfl
  | x :: r, h => by rw [List.flatMap_cons, List.flatMap_cons, h x (by simp), flatMap_cong fun a ha => h a (by simp [ha])]

theorem close_slot (owner : Int) (i : Nat) (ws : List Nat) : slotOf i (if ownW owner ws = true then lay ws [(0, 0)] else ws) = (slotOf i ws).filter fun s => !decide ((s.owner : Int) = owner) := by
  unfold ownW slotOf
  by_cases h0 : ws.getD 0 0 = 0
  · have : (decide (ws.getD 0 0 ≠ 0) : Bool) = false := decide_eq_false (fun h => h h0)
    rw [this, Bool.false_and]
    simp only [Bool.false_eq_true, if_false, if_pos h0]
    rfl
  · by_cases ho : ((ws.getD 0 0 : Nat) : Int) = owner
    · rw [if_neg h0, decide_eq_true h0, decide_eq_true ho]
      cases ws with
      | nil => exact absurd rfl h0
      | cons a r =>
        have ho' : ((a : Nat) : Int) = owner := ho
        simp [lay, ho']
    · rw [if_neg h0, decide_eq_false ho, Bool.and_false]
      simp only [Bool.false_eq_true, if_false, if_neg h0]
      rw [List.filter_cons_of_pos (by simpa using ho)]
      rfl

theorem stamp_slot (owner : Int) (st i : Nat) (ws : List Nat) (h8 : ws.length = 8) : slotOf i (if ownW owner ws = true then lay ws [(1, st)] else ws) = (slotOf i ws).map (stampS owner st) := by
  unfold ownW slotOf stampS
  match ws, h8 with
  | [a, b, c, d, e, f, g, h], _ =>
    by_cases h0 : a = 0
    · simp [h0]
    · by_cases ho : ((a : Nat) : Int) = owner
      · simp [h0, ho, lay, blocksOf]
      · simp [h0, ho]

theorem closed_law {LS : List (List Nat)} {from_ n : Nat} (hfit : from_ + n ≤ LS.length) (owner : Int) : slotsN (closeF from_ n LS owner).2 from_ n = keepF (slotsN LS from_ n) owner := by
  show slotsN (eachF from_ owner [(0, 0)] LS (slotsN LS from_ n)) from_ n = _
  rw [slotsN_fm]
  unfold keepF
  rw [slotsN_fm LS, List.filter_flatMap]
  refine flatMap_cong fun i hi => ?_
  have hi := List.mem_range.1 hi
  rw [← slotsN_fm LS, each_get hfit owner _ n (Nat.le_refl _), ← close_slot]
  congr 1
  have : (from_ ≤ from_ + i ∧ from_ + i < from_ + n) := by omega
  simp only [this, true_and]

theorem stamped_law {LS : List (List Nat)} {from_ n : Nat} (hfit : from_ + n ≤ LS.length) (h8 : ∀ ws ∈ LS, ws.length = 8) (owner : Int) (st : Nat) : slotsN (eachF from_ owner [(1, st)] LS (slotsN LS from_ n)) from_ n = (slotsN LS from_ n).map (stampS owner st) := by
  rw [slotsN_fm, slotsN_fm LS, List.map_flatMap]
  refine flatMap_cong fun i hi => ?_
  have hi := List.mem_range.1 hi
  have hl : (LS.getD (from_ + i) []).length = 8 := by
    rw [List.getD_eq_getElem?_getD, List.getElem?_eq_getElem (by omega)]
    exact h8 _ (List.getElem_mem _)
  rw [← slotsN_fm LS, each_get hfit owner _ n (Nat.le_refl _), ← stamp_slot owner st i _ hl]
  congr 1
  have : (from_ ≤ from_ + i ∧ from_ + i < from_ + n) := by omega
  simp only [this, true_and]

/-- No slot has the owner: nothing happens. -/
theorem each_none {from_ : Nat} {owner : Int} {prs : List (Nat × Nat)} : ∀ {S : List Sl} {LS : List (List Nat)}, S.any (fun s => decide ((s.owner : Int) = owner)) = false → eachF from_ owner prs LS S = LS
  | [], LS, _ => rfl
  | s :: r, LS, h => by
    rw [List.any_cons, Bool.or_eq_false_iff] at h
    show eachF from_ owner prs (if (s.owner : Int) = owner then _ else LS) r = LS
    rw [if_neg (of_decide_eq_false h.1), each_none h.2]

theorem slot_slot {k : Nat} {ws : List Nat} {s : Sl} (h : s ∈ slotOf k ws) : s.slot = k := by
  unfold slotOf at h
  split at h
  · cases h
  · simp at h; rw [h]

theorem slots_at {LS : List (List Nat)} {from_ n k : Nat} (hfit : from_ + n ≤ LS.length) (hk : k < n) : ∃ A B : List Sl, (∀ s ∈ A, s.slot < k) ∧ (∀ s ∈ B, k < s.slot) ∧ slotsN LS from_ n = A ++ (slotOf k (LS.getD (from_ + k) []) ++ B) ∧
    ∀ ws, slotsN (LS.set (from_ + k) ws) from_ n = A ++ (slotOf k ws ++ B) := by
  have hr := range_split k n hk
  refine ⟨(List.range k).flatMap (fun i => slotOf i (LS.getD (from_ + i) [])), (List.range' (k + 1) (n - k - 1)).flatMap (fun i => slotOf i (LS.getD (from_ + i) [])), fun s hs => ?_, fun s hs => ?_, ?_, fun ws => ?_⟩
  · obtain ⟨i, hi, hs⟩ := List.mem_flatMap.1 hs
    rw [slot_slot hs]; exact List.mem_range.1 hi
  · obtain ⟨i, hi, hs⟩ := List.mem_flatMap.1 hs
    rw [slot_slot hs]
    rw [List.mem_range'_1] at hi
    omega
  · rw [slotsN_fm, hr, List.flatMap_append, List.flatMap_cons]
  · rw [slotsN_fm, hr, List.flatMap_append, List.flatMap_cons]
    congr 1
    · refine flatMap_cong fun i hi => ?_
      have := List.mem_range.1 hi
      rw [getD_set (by omega), if_neg (by omega)]
    · congr 1
      · rw [getD_set (by omega), if_pos rfl]
      · refine flatMap_cong fun i hi => ?_
        rw [List.mem_range'_1] at hi
        rw [getD_set (by omega), if_neg (by omega)]

theorem insG_front {S : List Sl} {x : Sl} (h : ∀ s ∈ S, x.slot < s.slot) : insG (·.slot) x S = x :: S := by
  cases S with
  | nil => rfl
  | cons s r =>
    show (if x.slot < s.slot then _ else _) = _
    rw [if_pos (h s (by simp))]

set_option maxHeartbeats 1000000 in
theorem added_law {LS : List (List Nat)} {from_ n : Nat} (h : LI LS from_ n) (owner x : Int) : (addF from_ n LS owner x).1 = (refAdded (slotsN LS from_ n) n owner x).1 ∧
    slotsN (addF from_ n LS owner x).2 from_ n = if (refAdded (slotsN LS from_ n) n owner x).1 = 0 then (refAdded (slotsN LS from_ n) n owner x).2 else slotsN LS from_ n := by
  have hfit := h.fit
  unfold addF refAdded
  split
  · exact ⟨rfl, rfl⟩
  rename_i hbad
  split
  · exact ⟨rfl, rfl⟩
  rename_i htw
  split
  · exact ⟨rfl, rfl⟩
  have hbad' : badA owner x = false := by simpa using hbad
  unfold badA at hbad'
  rw [Bool.or_eq_false_iff] at hbad'
  have hd := of_decide_eq_false hbad'.1
  have hr : rightP x = true := by simpa using hbad'.2
  obtain ⟨ow, rfl⟩ := Int.eq_ofNat_of_zero_le (show 0 ≤ owner by omega)
  have hx0 : 0 ≤ x := by
    unfold rightP at hr
    have := of_decide_eq_true hr
    omega
  obtain ⟨pp, rfl⟩ := Int.eq_ofNat_of_zero_le hx0
  have hpp : pp ≠ 0 := by omega
  unfold openA
  cases hfi : (slotsN LS from_ n).findIdx? (roomA ((ow : Nat) : Int)) with
  | some a =>
    simp only [if_true]
    refine ⟨trivial, ?_⟩
    obtain ⟨ha, hroom, _⟩ := List.findIdx?_eq_some_iff_getElem.1 hfi
    obtain ⟨s, hs⟩ : ∃ s, s = (slotsN LS from_ n).getD a ⟨0, 0, 0, []⟩ := ⟨_, rfl⟩
    have hsg : (slotsN LS from_ n)[a] = s := by rw [hs, List.getD_eq_getElem?_getD, List.getElem?_eq_getElem ha]; rfl
    rw [← hs]
    rw [hsg] at hroom
    have hsm : s ∈ slotsN LS from_ n := by rw [← hsg]; exact List.getElem_mem ha
    have hk := slotsN_lt hsm
    have hof := slotsN_of hsm
    unfold roomA at hroom
    simp only [Bool.and_eq_true, decide_eq_true_eq] at hroom
    obtain ⟨A, B, hA, hB, hS, hset⟩ := slots_at (LS := LS) (from_ := from_) hfit hk
    have h8 := line_len h hk
    have ht := h.tail s.slot hk
    obtain ⟨ws, hws⟩ : ∃ ws, ws = LS.getD (from_ + s.slot) [] := ⟨_, rfl⟩
    rw [← hws] at h8 ht hof hS ⊢
    rw [hof] at hS
    rw [hset]
    have haA : a = A.length := by
      have hsa : (slotsN LS from_ n)[a]? = some s := by rw [List.getElem?_eq_getElem ha, hsg]
      rw [hS] at hsa
      rcases Nat.lt_trichotomy a A.length with hlt | heq | hgt
      · rw [List.getElem?_append_left hlt] at hsa
        have := hA s (List.mem_of_getElem? hsa)
        omega
      · exact heq
      · rw [List.getElem?_append_right (by omega), List.getElem?_append_right (by simp; omega)] at hsa
        have := hB s (List.mem_of_getElem? hsa)
        omega
    have h0 : ws.getD 0 0 ≠ 0 := fun e => by
      unfold slotOf at hof
      rw [if_pos e] at hof
      cases hof
    have hse : s = ⟨s.slot, ws.getD 0 0, ws.getD 1 0, blocksOf ws⟩ := by
      unfold slotOf at hof
      rw [if_neg h0] at hof
      exact (List.cons.inj hof).1.symm
    have hbl : s.blocks = blocksOf ws := by rw [hse]
    have ht := ht h0
    obtain ⟨m, hm⟩ : ∃ m, m = (blocksOf ws).length := ⟨_, rfl⟩
    have hm6 : m < 6 := by rw [hm, ← hbl]; exact hroom.2
    rw [hbl, ← hm]
    rw [← hm] at ht
    have hd : (ws.set (2 + m) pp).drop 2 = blocksOf ws ++ pp :: List.replicate (5 - m) 0 := by
      rw [List.drop_set, if_neg (by omega), ht, Nat.add_sub_cancel_left, List.set_append, if_neg (by omega), ← hm, Nat.sub_self]
      have : 6 - m = (5 - m) + 1 := by omega
      rw [this, List.replicate_succ, List.set_cons_zero]
    have hbn : ∀ y ∈ blocksOf ws, (y != 0) = true := fun y hy => List.all_eq_true.1 (List.all_takeWhile (p := fun x : Nat => x != 0) (l := ws.drop 2)) y hy
    have hnew : blocksOf (ws.set (2 + m) pp) = blocksOf ws ++ [pp] := by
      show ((ws.set (2 + m) pp).drop 2).takeWhile _ = _
      rw [hd, List.takeWhile_append_of_pos hbn, List.takeWhile_cons]
      have : (pp != 0) = true := by simpa using hpp
      rw [this]
      congr 1
      cases 5 - m with
      | zero => rfl
      | succ q => rfl
    have g0 : (ws.set (2 + m) pp).getD 0 0 = ws.getD 0 0 := by
      rw [List.getD_eq_getElem?_getD, List.getElem?_set, if_neg (by omega), List.getD_eq_getElem?_getD]
    have g1 : (ws.set (2 + m) pp).getD 1 0 = ws.getD 1 0 := by
      rw [List.getD_eq_getElem?_getD, List.getElem?_set, if_neg (by omega), List.getD_eq_getElem?_getD]
    have hslot : slotOf s.slot (lay ws [(2 + m, ((pp : Nat) : Int).toNat)]) = [addB s ((pp : Nat) : Int).toNat] := by
      show slotOf s.slot (ws.set (2 + m) pp) = [addB s pp]
      unfold slotOf addB
      rw [g0, if_neg h0, g1, hnew, hse]
    rw [hslot, hS, haA, List.set_append, if_neg (by omega), Nat.sub_self]
    rfl
  | none =>
    simp only
    unfold openF vacF
    cases hfd : (List.range n).find? (fun k : Nat => !usedA (slotsN LS from_ n) (k : Int)) with
    | none => exact ⟨rfl, rfl⟩
    | some k =>
      have hk : k < n := List.mem_range.1 (List.mem_of_find?_eq_some hfd)
      have hu : usedA (slotsN LS from_ n) (k : Int) = false := by
        have := List.find?_some hfd
        simpa using this
      obtain ⟨A, B, hA, hB, hS, hset⟩ := slots_at (LS := LS) (from_ := from_) hfit hk
      have h8 := line_len h hk
      have hold : slotOf k (LS.getD (from_ + k) []) = [] := by
        cases hso : slotOf k (LS.getD (from_ + k) []) with
        | nil => rfl
        | cons s r =>
          unfold usedA at hu
          rw [List.any_eq_false] at hu
          have hsk : s.slot = k := slot_slot (ws := LS.getD (from_ + k) []) (by rw [hso]; simp)
          exact absurd (by rw [hsk]; simp) (hu s (by rw [hS, hso]; simp))
      simp only
      rw [if_neg (by show ¬ ((k : Nat) : Int) < 0; omega)]
      refine ⟨rfl, ?_⟩
      rw [if_pos rfl, hset]
      rw [hold, List.nil_append] at hS
      have hins : insG (fun s : Sl => s.slot) ⟨k, ow, 0, [pp]⟩ (slotsN LS from_ n) = A ++ ⟨k, ow, 0, [pp]⟩ :: B := by
        rw [hS, insG_all (fun s hs => by have := hA s hs; show ¬ k < s.slot; omega), insG_front (fun s hs => hB s hs)]
      have hf : slotOf k (lay (LS.getD (from_ + k) []) (freshA ow pp)) = [⟨k, ow, 0, [pp]⟩] := by
        rw [fresh_line h8]
        unfold slotOf
        rw [if_neg (by show ¬ ow = 0; omega), blocksOf_fresh hpp]
        rfl
      show A ++ (slotOf k (lay (LS.getD (from_ + k) []) (freshA ow pp)) ++ B) = insG (fun s : Sl => s.slot) ⟨k, ow, 0, [pp]⟩ (slotsN LS from_ n)
      rw [hf, hins]
      rfl

theorem do_law {LS : List (List Nat)} {from_ n : Nat} (h : LI LS from_ n) (kind owner x : Int) : (doF from_ n LS kind owner x).1 = (refDo (slotsN LS from_ n) n kind owner x).1 ∧
    slotsN (doF from_ n LS kind owner x).2 from_ n = if (refDo (slotsN LS from_ n) n kind owner x).1 = 0 then (refDo (slotsN LS from_ n) n kind owner x).2 else slotsN LS from_ n := by
  unfold doF refDo
  split
  · unfold refClosed ownsF
    rw [closed_law h.fit]
    unfold closeF
    cases ho : (slotsN LS from_ n).any (fun s => decide ((s.owner : Int) = owner)) with
    | true => exact ⟨rfl, rfl⟩
    | false =>
      refine ⟨rfl, ?_⟩
      show keepF _ _ = slotsN LS from_ n
      unfold keepF
      rw [List.filter_eq_self]
      intro s hs
      have := List.any_eq_false.1 ho s hs
      simpa using this
  · split
    · unfold refStamped ownsF stampF
      split
      · exact ⟨rfl, rfl⟩
      · simp only
        cases ho : (slotsN LS from_ n).any (fun s => decide ((s.owner : Int) = owner)) with
        | true => exact ⟨rfl, stamped_law h.fit h.len8 _ _⟩
        | false =>
          refine ⟨rfl, ?_⟩
          show slotsN (eachF _ _ _ _ _) _ _ = slotsN LS from_ n
          rw [each_none ho]
    · exact added_law h owner x

/-- Outside of the slots nothing changes. -/
theorem do_out {LS : List (List Nat)} {from_ n : Nat} (h : LI LS from_ n) (kind owner x : Int) (i : Nat) (hi : i < from_ ∨ from_ + n ≤ i) : (doF from_ n LS kind owner x).2.getD i [] = LS.getD i [] := by
  have hset : ∀ k ws, k < n → (LS.set (from_ + k) ws).getD i [] = LS.getD i [] := fun k ws hk => by
    rw [getD_set (by have := h.fit; omega), if_neg (by omega)]
  unfold doF
  split
  · show (eachF from_ owner [(0, 0)] LS (slotsN LS from_ n)).getD i [] = _
    rw [each_get h.fit _ _ n (Nat.le_refl _), if_neg (by omega)]
  · split
    · unfold stampF
      split
      · rfl
      · show (eachF from_ owner _ LS (slotsN LS from_ n)).getD i [] = _
        rw [each_get h.fit _ _ n (Nat.le_refl _), if_neg (by omega)]
    · unfold addF
      split
      · rfl
      · split
        · rfl
        · split
          · rfl
          · unfold openA
            cases hfi : (slotsN LS from_ n).findIdx? (roomA owner) with
            | some a =>
              obtain ⟨ha, _, _⟩ := List.findIdx?_eq_some_iff_getElem.1 hfi
              refine hset _ _ (slotsN_lt (LS := LS) (from_ := from_) ?_)
              rw [List.getD_eq_getElem?_getD, List.getElem?_eq_getElem ha]
              exact List.getElem_mem ha
            | none =>
              simp only
              cases hfd : (List.range n).find? (fun k : Nat => !usedA (slotsN LS from_ n) (k : Int)) with
              | none => rfl
              | some k => exact hset _ _ (List.mem_range.1 (List.mem_of_find?_eq_some hfd))

theorem do_len {LS : List (List Nat)} {from_ n : Nat} (kind owner x : Int) : (doF from_ n LS kind owner x).2.length = LS.length := by
  unfold doF
  split
  · exact eachF_len
  · split
    · unfold stampF
      split
      · rfl
      · exact eachF_len
    · unfold addF
      split
      · rfl
      · split
        · rfl
        · split
          · rfl
          · unfold openA
            split
            · simp
            · split
              · simp
              · rfl

end Go.Proofs.YtlfolinjajjgjaaDoor
