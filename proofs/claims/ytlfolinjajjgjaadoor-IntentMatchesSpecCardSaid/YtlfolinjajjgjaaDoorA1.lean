/- The specification of the slots: lists that are made. -/
import Derived.Test.YtlfolinjajjgjaaDoorA0
namespace Go.Proofs.YtlfolinjajjgjaaDoor
open Go.E

/-- A slice to read alone, in a block of D. -/
def SliD (w : World) (v : Value) (n : Nat) (xs : List Value) (D : Nat → Prop) : Prop := ∃ a c, v = .slice a n c ∧ n ≤ c ∧ ((a = none ∧ n = 0) ∨ ∃ g o, a = some ⟨g, o, none⟩ ∧ D g ∧ Cells w g o xs)

theorem SliD.sli {w : World} {v : Value} {n : Nat} {xs : List Value} {D : Nat → Prop} (h : SliD w v n xs D) : Sli w v n xs := by
  obtain ⟨a, c, hv, hn, h | ⟨g, o, ha, _, hc⟩⟩ := h
  · exact ⟨a, c, hv, hn, .inl h⟩
  · exact ⟨a, c, hv, hn, .inr ⟨g, o, ha, hc⟩⟩
theorem SliD.tr {T : List Nat} {w w' : World} {v : Value} {n : Nat} {xs : List Value} {D : Nat → Prop} (h : SliD w v n xs D) (t : Tr T w w') (hn : ∀ b, b ∈ T → ¬ D b) : SliD w' v n xs D := by
  obtain ⟨a, c, hv, hl, h | ⟨g, o, ha, hd, hc⟩⟩ := h
  · exact ⟨a, c, hv, hl, .inl h⟩
  · exact ⟨a, c, hv, hl, .inr ⟨g, o, ha, hd, hc.tr t fun hm => hn g hm hd⟩⟩
theorem SliD.ext {w w' : World} {v : Value} {n : Nat} {xs : List Value} {D : Nat → Prop} (h : SliD w v n xs D) (t : Tr [] w w') : SliD w' v n xs D := h.tr t (by simp)
theorem SliD.mono {w : World} {v : Value} {n : Nat} {xs : List Value} {D D' : Nat → Prop} (h : SliD w v n xs D) (hD : ∀ b, D b → D' b) : SliD w v n xs D' := by
  obtain ⟨a, c, hv, hl, h | ⟨g, o, ha, hd, hc⟩⟩ := h
  · exact ⟨a, c, hv, hl, .inl h⟩
  · exact ⟨a, c, hv, hl, .inr ⟨g, o, ha, hD g hd, hc⟩⟩
theorem Row.slid {w : World} {e size n : Nat} {v : Value} {xs : List Value} (h : Row w e size v n xs) : SliD w v n xs (fun b => v.ownBlock = some b) := by
  rcases Row.elem h with ⟨rfl, rfl⟩ | ⟨g, cap, rfl, hn, _, hc⟩
  · exact ⟨none, 0, rfl, Nat.le_refl _, .inl ⟨rfl, rfl⟩⟩
  · exact ⟨_, cap, rfl, hn, .inr ⟨g, 0, rfl, rfl, hc⟩⟩
theorem SliD.slice {w : World} {v : Value} {n : Nat} {xs : List Value} {D : Nat → Prop} (h : SliD w v n xs D) : ∃ a c, v = .slice a n c := let ⟨a, c, h, _⟩ := h; ⟨a, c, h⟩
theorem SliD.one {w : World} {v : Value} {n : Nat} {xs : List Value} {D : Nat → Prop} (h : SliD w v n xs D) : E.one v = true := by obtain ⟨a, c, rfl⟩ := h.slice; rfl

/-- append of a slice to read alone. -/
theorem append_gen {t e ty : Nat} {x y : TI} (ht : tget cx.tb t = some x) (hx : x.kd = .slice e) (he : tget cx.tb e = some y) (hsz : 0 < y.size)
    {w : World} {v : Value} {n : Nat} {xs : List Value} (h : Row w e y.size v n xs) {bv : Value} {m : Nat} {news : List Value} (hb : Sli w bv m news) (hl : news.length = m * y.size) (h1 : news.all one = true)
    (h63 : n + m ≤ 1099511627776) (hby : y.bytes ≤ 128) {K : Value → World → Prop}
    (hK : ∀ v' w', Row w' e y.size v' (n + m) (xs ++ news) → Tr v.ownBlock.toList w w' → (v'.ownBlock = v.ownBlock ∨ v'.ownBlock = some w.heap.size) → K v' w') :
    RunV cx.P (Builtin.append_ #[t, t] ty #[v, bv]) w K := by
  obtain ⟨a, c, rfl, _, ⟨rfl, rfl⟩ | ⟨g, o, rfl, hc⟩⟩ := hb
  · have : news = [] := List.eq_nil_of_length_eq_zero (by rw [hl]; simp)
    subst this
    exact append_none ht hx he h c (hK v w (by simpa using h) (Tr.refl _ _) (.inl rfl))
  · exact append_own cx_ok ht hx he hsz h g o m c news hl hc h1 h63 hby fun v' w' hr t hat _ => hK v' w' hr t hat

/-- A cell of a row of the call's own is written. -/
theorem Row.store1 {w : World} {e size n : Nat} {v u : Value} {xs : List Value} (h : Row w e size v n xs) {g o : Nat} (hg : v.ownBlock = some g) (ho : o < xs.length) (hu : E.one u = true) {K : World → Prop}
    (hK : ∀ w', Tr [g] w w' → Row w' e size v n (xs.set o u) → K w') : St1 w g o u K := by
  obtain ⟨h1, ⟨rfl, _⟩ | ⟨g', cap, cur, rfl, hb, h4, h5, h6, h7, h8⟩⟩ := h
  · simp [Value.ownBlock] at hg
  · simp only [Value.ownBlock, Option.some.injEq] at hg
    subst hg
    have hlen : xs.length ≤ cur.toList.length := by rw [← h8, List.length_take]; omega
    refine ⟨cur.toList, e, by unfold Blk; simpa using h4, by omega, hu, fun w' u' => hK w' u'.tr ⟨by simpa using h1, .inr ⟨g', cap, (cur.toList.set o u).toArray, rfl, hb, u'.get, h5, h6, by simpa using h7, ?_⟩⟩⟩
    simp only [List.take_set, h8]

/-- A list of slots, to read alone, in blocks of D. -/
structure SlD (w : World) (v : Value) (Z : List (Sl × Value)) (D : Nat → Prop) : Prop where
  small : Z.length ≤ 1048576
  sl : SliD w v Z.length (Z.flatMap zcells) D
  blk : ∀ z ∈ Z, z.1.blocks.length ≤ 1048576 ∧ SliD w z.2 z.1.blocks.length (icells z.1.blocks) D

theorem SlD.tr {T : List Nat} {w w' : World} {v : Value} {Z : List (Sl × Value)} {D : Nat → Prop} (h : SlD w v Z D) (t : Tr T w w') (hn : ∀ b, b ∈ T → ¬ D b) : SlD w' v Z D :=
  ⟨h.small, h.sl.tr t hn, fun z hz => ⟨(h.blk z hz).1, (h.blk z hz).2.tr t hn⟩⟩
theorem SlD.ext {w w' : World} {v : Value} {Z : List (Sl × Value)} {D : Nat → Prop} (h : SlD w v Z D) (t : Tr [] w w') : SlD w' v Z D := h.tr t (by simp)
theorem SlD.mono {w : World} {v : Value} {Z : List (Sl × Value)} {D D' : Nat → Prop} (h : SlD w v Z D) (hD : ∀ b, D b → D' b) : SlD w v Z D' :=
  ⟨h.small, h.sl.mono hD, fun z hz => ⟨(h.blk z hz).1, (h.blk z hz).2.mono hD⟩⟩
theorem SlD.nil (w : World) (D : Nat → Prop) : SlD w (.slice none 0 0) [] D := ⟨by simp, ⟨none, 0, rfl, Nat.le_refl _, .inl ⟨rfl, rfl⟩⟩, by simp⟩

theorem zcells_at {Z : List (Sl × Value)} {j : Nat} {z : Sl × Value} (h : Z[j]? = some z) {W : World} {g o : Nat} (hc : Cells W g o (Z.flatMap zcells)) : Cells W g (o + j * 4) (zcells z) := fun i v hv => by
  rw [Nat.add_assoc]
  exact hc _ _ (fm_get (k := 4) (fun _ _ => rfl) h hv)

theorem SlD.slr {w : World} {v : Value} {Z : List (Sl × Value)} {D : Nat → Prop} (h : SlD w v Z D) : SlR w v (Z.map (·.1)) := by
  obtain ⟨a, c, rfl, _, ⟨ha, h0⟩ | ⟨g, o, rfl, _, hc⟩⟩ := h.sl
  · exact ⟨a, c, by rw [List.length_map], by rw [List.length_map]; exact h.small, .inl ⟨ha, by rw [List.length_map]; exact h0⟩⟩
  · refine ⟨_, c, by rw [List.length_map], by rw [List.length_map]; exact h.small, .inr ⟨g, o, rfl, fun i s hs => ?_⟩⟩
    rw [List.getElem?_map] at hs
    obtain ⟨z, hz, rfl⟩ := Option.map_eq_some_iff.1 hs
    have := h.blk z (List.mem_of_getElem? hz)
    exact ⟨this.1, z.2, zcells_at hz hc, this.2.sli⟩

/-- A list of slots that is being made: its own row (in blocks from m on), whose elements' blocks lie in D. -/
structure Out (W : World) (D : Nat → Prop) (m : Nat) (ov : Value) (Z : List (Sl × Value)) : Prop where
  mid : m ≤ W.heap.size
  row : Row W 54 4 ov Z.length (Z.flatMap zcells)
  own : ∀ b, ov.ownBlock = some b → m ≤ b
  sli : ∀ z ∈ Z, z.1.blocks.length ≤ 1048576 ∧ SliD W z.2 z.1.blocks.length (icells z.1.blocks) D
  dm : ∀ b, D b → b < m

theorem Out.nil {W : World} {D : Nat → Prop} (hD : ∀ b, D b → b < W.heap.size) : Out W D W.heap.size (.slice none 0 0) [] := ⟨Nat.le_refl _, World.ownsRow_nil _ _ _ _, fun b hb => by simp [Value.ownBlock] at hb, by simp, hD⟩
theorem Out.tr {T : List Nat} {W W' : World} {D : Nat → Prop} {m : Nat} {ov : Value} {Z : List (Sl × Value)} (h : Out W D m ov Z) (t : Tr T W W') (hn : ∀ b, b ∈ T → ¬ D b ∧ b < m) : Out W' D m ov Z :=
  ⟨Nat.le_trans h.mid t.size, Row.tr h.row t (fun b hb hm => by have := h.own b hb; have := (hn b hm).2; omega), h.own, fun z hz => ⟨(h.sli z hz).1, (h.sli z hz).2.tr t fun b hb => (hn b hb).1⟩, h.dm⟩
theorem Out.ext {W W' : World} {D : Nat → Prop} {m : Nat} {ov : Value} {Z : List (Sl × Value)} (h : Out W D m ov Z) (t : Tr [] W W') : Out W' D m ov Z := h.tr t (by simp)
/-- Behind a store into the row. -/
theorem Out.own_tr {W W' : World} {D : Nat → Prop} {m g : Nat} {ov ov' : Value} {Z Z' : List (Sl × Value)} (h : Out W D m ov Z) (t : Tr [g] W W') (hg : m ≤ g) (hr : Row W' 54 4 ov' Z'.length (Z'.flatMap zcells)) (ho : ∀ b, ov'.ownBlock = some b → m ≤ b)
    (hZ : ∀ z ∈ Z', z.1.blocks.length ≤ 1048576 ∧ SliD W z.2 z.1.blocks.length (icells z.1.blocks) D) : Out W' D m ov' Z' :=
  ⟨Nat.le_trans h.mid t.size, hr, ho, fun z hz => ⟨(hZ z hz).1, (hZ z hz).2.tr t fun b hb hd => by have := h.dm b hd; simp at hb; omega⟩, h.dm⟩

theorem Out.fin {W : World} {D : Nat → Prop} {m : Nat} {ov : Value} {Z : List (Sl × Value)} (h : Out W D m ov Z) (hn : Z.length ≤ 1048576) : SlD W ov Z (fun b => D b ∨ (m ≤ b ∧ b < W.heap.size)) :=
  ⟨hn, (Row.slid h.row).mono fun b hb => .inr ⟨h.own b hb, Row.lt h.row hb⟩, fun z hz => ⟨(h.sli z hz).1, (h.sli z hz).2.mono fun b hb => .inl hb⟩⟩

theorem zcells_one {z : Sl × Value} (h : E.one z.2 = true) : (zcells z).all E.one = true := by
  simp only [zcells, List.all_cons, h, List.all_nil]; rfl

/-- append of one element that lies at an address. -/
theorem Out.append {W : World} {D : Nat → Prop} {m : Nat} {ov : Value} {Z : List (Sl × Value)} (h : Out W D m ov Z) (hn : Z.length ≤ 1048576) {z : Sl × Value} (hz : z.1.blocks.length ≤ 1048576 ∧ SliD W z.2 z.1.blocks.length (icells z.1.blocks) D) (b o c ty : Nat) (hc : Cells W b o (zcells z)) {K : Value → World → Prop}
    (hK : ∀ v' W', Out W' D m v' (Z ++ [z]) → (∀ w1, w1.heap.size ≤ m → Tr [] w1 W → Tr [] w1 W') → K v' W') : RunV cx.P (Builtin.append_ #[29, 29] ty #[ov, .slice (some ⟨b, o, none⟩) 1 c]) W K := by
  refine append_own cx_ok (x := ⟨1, 24, false, [.slice none 0 0], .slice 54⟩) rfl rfl rfl (by decide) h.row b o 1 c (zcells z) rfl hc (zcells_one hz.2.one) (by omega) (by decide) ?_
  intro v' W' hr t hat _
  have hmi := h.mid
  have ht : ∀ w1, w1.heap.size ≤ m → Tr [] w1 W → Tr [] w1 W' := fun w1 h1 h2 => h2.trans t (fun _ h => h) (fun b hb hlt => by have := h.own b (by simpa using hb); omega)
  refine hK v' W' ⟨Nat.le_trans h.mid t.size, by simpa using hr, fun b hb => ?_, fun x hx => ?_, h.dm⟩ ht
  · rcases hat with e | e
    · exact h.own b (e ▸ hb)
    · rw [e] at hb; have := Option.some.inj hb; omega
  · have key : x.1.blocks.length ≤ 1048576 ∧ SliD W x.2 x.1.blocks.length (icells x.1.blocks) D := by
      rcases List.mem_append.1 hx with hx | hx
      · exact h.sli x hx
      · obtain rfl : x = z := by simpa using hx
        exact hz
    exact ⟨key.1, key.2.tr t fun b hb hd => by have := h.own b (by simpa using hb); have := h.dm b hd; omega⟩

/-- append([]Intent{}, l...) -/
theorem Out.copy {w W : World} {b : Nat} (n : New w b (.cells ([] : List Value).toArray 54) W) {D : Nat → Prop} (hD : ∀ b, D b → b < w.heap.size) {s : Value} {Z : List (Sl × Value)} (hs : SlD w s Z D) (ty : Nat) {K : Value → World → Prop}
    (hK : ∀ v' W', Out W' D w.heap.size v' Z → Tr [] w W' → K v' W') : RunV cx.P (Builtin.append_ #[29, 29] ty #[.slice (some ⟨b, 0, none⟩) 0 0, s]) W K := by
  have e1 := n.num; have z1 := n.size
  have hs1 := hs.ext n.tr
  have hone : (Z.flatMap zcells).all E.one = true := by
    rw [List.all_eq_true]
    intro x hx
    obtain ⟨z, hz, hx⟩ := List.mem_flatMap.1 hx
    exact List.all_eq_true.1 (zcells_one (hs.blk z hz).2.one) x hx
  refine append_gen (x := ⟨1, 24, false, [.slice none 0 0], .slice 54⟩) rfl rfl rfl (by decide) (row_empty n) hs1.sl.sli (fm_len fun _ _ => rfl) hone (by have := hs.small; omega) (by decide) ?_
  intro v' W' hr t hat
  have t' : Tr [] w W' := n.tr.trans t (fun _ h => h) (fun c hc hlt => by simp [Value.ownBlock] at hc; omega)
  refine hK v' W' ⟨t'.size, by simpa using hr, fun c hc => ?_, fun z hz => ⟨(hs.blk z hz).1, (hs.blk z hz).2.ext t'⟩, hD⟩ t'
  rcases hat with e | e
  · rw [e] at hc; simp [Value.ownBlock] at hc; omega
  · rw [e] at hc; have := Option.some.inj hc; omega

/-- What a function of the specification returns: slots and 0, or an error. -/
def SlotsQ (w W : World) (D : Nat → Prop) (v : Value) (e : Int) (S : List Sl) : Prop := ∃ sv, v = .agg #[sv, .int .i64 e] ∧ (e = 0 → ∃ Z, Z.map (·.1) = S ∧ SlD W sv Z fun b => D b ∨ (w.heap.size ≤ b ∧ b < W.heap.size)) ∧ E.one sv = true

theorem SlotsQ.err {w W : World} {D : Nat → Prop} {e : Int} (h : e ≠ 0) (S : List Sl) : SlotsQ w W D (.agg #[.slice none 0 0, .int .i64 e]) e S := ⟨_, rfl, fun h' => absurd h' h, rfl⟩

theorem Right07_calls' (x : Int) (w : World) : Calls cx.P 17 #[.int .i64 x] w (Ret fun v w' => v = .bool (rightP x) ∧ w = w') := by
  refine calls_body cx_ok (args := [.int .i64 x]) Tryd.func17 rfl 22 rfl rfl [.tmp 2] rfl ?_
  refine ⟨fun h0 => ?_, fun h0 => ?_⟩
  · exact ⟨by simp [rightP, h0], rfl⟩
  refine call (word07_calls x w) ?_
  rintro _ _ ⟨hv, rfl⟩
  by_cases hw : 0 ≤ x ∧ x ≤ 1099511627775
  · rw [decide_eq_true hw] at hv
    subst hv
    refine ⟨x % 4096, by decide, by rw [IntWalk.rem_in _ _ (by omega)], fun h1 => ?_, fun h1 => ?_⟩
    · refine ⟨x / 4096, by decide, by rw [IntWalk.i64_quo _ _ (by omega)], fun h2 => ?_, fun h2 => ?_⟩
      · refine ⟨x / 4096, by decide, by rw [IntWalk.i64_quo _ _ (by omega)], fun h3 => ?_, fun h3 => ?_⟩
        · exact ⟨by simp [rightP] <;> omega, rfl⟩
        · exact ⟨by simp [rightP] <;> omega, rfl⟩
      · exact ⟨by simp [rightP] <;> omega, rfl⟩
    · exact ⟨by simp [rightP] <;> omega, rfl⟩
  · rw [decide_eq_false hw] at hv
    subst hv
    exact ⟨by simp [rightP] <;> omega, rfl⟩

end Go.Proofs.YtlfolinjajjgjaaDoor
