/- intent.Read. -/
import Derived.Test.YtlfolinjajjgjaaDoorI0
namespace Go.Proofs.YtlfolinjajjgjaaDoor
open Go.E

def zcells (z : Sl × Value) : List Value := [.int .i64 (z.1.slot : Nat), .int .i64 (z.1.owner : Nat), .int .i64 (z.1.stamp : Nat), z.2]
def ownZ (z : Sl × Value) : List Nat := z.2.ownBlock.toList
def sblocks (v : Value) (Z : List (Sl × Value)) : List Nat := v.ownBlock.toList ++ Z.flatMap ownZ

/-- A list of slots. -/
structure SlW (w : World) (v : Value) (Z : List (Sl × Value)) : Prop where
  row : Row w 54 4 v Z.length (Z.flatMap zcells)
  blk : ∀ z ∈ Z, Row w 3 1 z.2 z.1.blocks.length (icells z.1.blocks)
  ne : ∀ b, v.ownBlock = some b → ∀ z ∈ Z, z.2.ownBlock ≠ some b

theorem in_sv {v : Value} {Z : List (Sl × Value)} {b : Nat} (h : v.ownBlock = some b) : b ∈ sblocks v Z := by simp [sblocks, h]
theorem in_sz {v : Value} {Z : List (Sl × Value)} {z : Sl × Value} (hz : z ∈ Z) {b : Nat} (h : z.2.ownBlock = some b) : b ∈ sblocks v Z := by
  unfold sblocks
  exact List.mem_append_right _ (List.mem_flatMap.2 ⟨z, hz, by simp [ownZ, h]⟩)

theorem SlW.tr {S : List Nat} {w w' : World} {v : Value} {Z : List (Sl × Value)} (h : SlW w v Z) (t : Tr S w w') (hS : ∀ b ∈ S, b ∉ sblocks v Z) : SlW w' v Z :=
  ⟨Row.tr h.row t fun b hb hm => hS b hm (in_sv hb), fun z hz => Row.tr (h.blk z hz) t fun b hb hm => hS b hm (in_sz hz hb), h.ne⟩
theorem SlW.ext {w w' : World} {v : Value} {Z : List (Sl × Value)} (h : SlW w v Z) (t : Tr [] w w') : SlW w' v Z := h.tr t (by simp)
theorem SlW.lt {w : World} {v : Value} {Z : List (Sl × Value)} (h : SlW w v Z) : ∀ b ∈ sblocks v Z, b < w.heap.size := by
  intro b hb
  simp only [sblocks, List.mem_append, Option.mem_toList, List.mem_flatMap, ownZ] at hb
  rcases hb with hb | ⟨z, hz, hb⟩
  · exact Row.lt h.row hb
  · exact Row.lt (h.blk z hz) hb
theorem SlW.nil (w : World) : SlW w (.slice none 0 0) [] := ⟨⟨by simp, .inl ⟨rfl, rfl⟩⟩, by simp, by simp⟩

theorem SlW.snoc {w w' : World} {v v' : Value} {Z : List (Sl × Value)} {z : Sl × Value} (h : SlW w v Z) (hz : Row w 3 1 z.2 z.1.blocks.length (icells z.1.blocks)) (hzn : ∀ b, z.2.ownBlock = some b → v.ownBlock ≠ some b)
    (hr : Row w' 54 4 v' (Z.length + 1) (Z.flatMap zcells ++ zcells z)) (t : Tr v.ownBlock.toList w w') (hat : v'.ownBlock = v.ownBlock ∨ v'.ownBlock = some w.heap.size) : SlW w' v' (Z ++ [z]) := by
  have hv : ∀ b, b ∈ v.ownBlock.toList → v.ownBlock = some b := fun b hb => by simpa using hb
  refine ⟨by simpa using hr, fun x hx => ?_, fun b hb x hx ho => ?_⟩
  · rcases List.mem_append.1 hx with hx | hx
    · exact Row.tr (h.blk x hx) t fun b hb hm => h.ne b (hv b hm) x hx hb
    · obtain rfl : x = z := by simpa using hx
      exact Row.tr hz t fun b hb hm => hzn b hb (hv b hm)
  · rcases List.mem_append.1 hx with hx | hx
    · rcases hat with e | e
      · exact h.ne b (e ▸ hb) x hx ho
      · have := Row.lt (h.blk x hx) ho
        rw [e] at hb
        have := Option.some.inj hb
        omega
    · obtain rfl : x = z := by simpa using hx
      rcases hat with e | e
      · exact hzn b ho (e ▸ hb)
      · have := Row.lt hz ho
        rw [e] at hb
        have := Option.some.inj hb
        omega

theorem idx_zero : ∀ xs : List Nat, idxOf xs 0 = if (xs.takeWhile (fun x => x != 0)).length < xs.length then (((xs.takeWhile (fun x => x != 0)).length : Nat) : Int) else -1 := by
  intro xs
  have key : ∀ xs : List Nat, xs.findIdx? (fun x : Nat => (0 : Int) == (x : Int)) = if (xs.takeWhile (fun x => x != 0)).length < xs.length then some (xs.takeWhile (fun x => x != 0)).length else none := by
    intro xs
    induction xs with
    | nil => simp
    | cons x r ih =>
      rw [List.findIdx?_cons]
      by_cases hx : x = 0
      · subst hx; simp
      · have h1 : ((0 : Int) == (x : Int)) = false := by simp; omega
        have h2 : (x != 0) = true := by simpa using hx
        rw [h1, List.takeWhile_cons, h2, ih]
        simp only [Bool.false_eq_true, if_false, if_true, List.length_cons, Nat.add_lt_add_iff_right]
        split <;> simp
  unfold idxOf
  rw [key]
  split
  · rename_i i hi
    split at hi
    · rename_i h
      rw [if_pos h]
      obtain rfl := Option.some.inj hi
      rfl
    · cases hi
  · rename_i hi
    split at hi
    · cases hi
    · rename_i h; rw [if_neg h]

theorem blocks_le {ws : List Nat} (h8 : ws.length = 8) : (blocksOf ws).length ≤ 6 := by
  have := (List.takeWhile_sublist (l := ws.drop 2) (fun x => x != 0)).length_le
  unfold blocksOf
  rw [List.length_drop] at this
  omega

theorem blocks_get {ws : List Nat} {j x : Nat} (h : (blocksOf ws)[j]? = some x) : ws[2 + j]? = some x := by
  have hp := List.takeWhile_prefix (l := ws.drop 2) (fun x => x != 0)
  obtain ⟨t, ht⟩ := hp
  have : (ws.drop 2)[j]? = some x := by
    have ht' : blocksOf ws ++ t = ws.drop 2 := ht
    rw [← ht', List.getElem?_append_left (List.getElem?_eq_some_iff.1 h).1]; exact h
  rw [List.getElem?_drop] at this
  exact this

section
variable {w : World} {p bl bm : Nat} {rows : List (Ln × Value)} {evv : Value} {span nev : Nat}

def shf (rows : List (Ln × Value)) (from_ i : Nat) : Option (List Nat) := (rows[from_ + i]?).bind shr

/-- What Read returns. -/
def ReadQ (w w' : World) (o : Option (List Sl)) (v : Value) : Prop :=
  match o with
  | some S => ∃ sv Z, v = .tuple #[sv, .int .i64 0] ∧ SlW w' sv Z ∧ Z.map (·.1) = S ∧ ∀ b ∈ sblocks sv Z, w.heap.size ≤ b
  | none => v = .tuple #[.slice none 0 0, .int .i64 9]

set_option maxHeartbeats 2000000 in
theorem Read_calls (h : MemX w p bl bm rows evv span nev) (hg : Gl w) (lc : List Value) (from_ n : Nat) (hlc : lc.length = 8) (hl1 : lc.all E.one = true) (h3 : lc[3]? = some (.int .i64 (from_ : Nat))) (h4 : lc[4]? = some (.int .i64 (n : Nat))) (hfit : from_ + n ≤ rows.length) :
    Calls cx.P 11 #[.pointer (some ⟨p, 0, none⟩), .agg lc.toArray] w (Ret fun v w' => Tr [] w w' ∧ ReadQ w w' (rdTo (shf rows from_) n) v) := by
  have hsml := h.small
  refine calls_body_m cx_ok (args := [.pointer (some ⟨p, 0, none⟩), .agg lc.toArray]) Tryd.func11 rfl 42 rfl rfl [.cell 4 29, .cell 5 32] rfl ?_
  intro b3 w1 n1 b4 w2 n2 b5 w3 n3 b6 w4 n4 b7 w5 n5
  have e1 := n1.num; have e2 := n2.num; have e3 := n3.num; have e4 := n4.num; have e5 := n5.num
  have z1 := n1.size; have z2 := n2.size; have z3 := n3.size; have z4 := n4.size; have z5 := n5.size
  refine ⟨_, _, n5.blk, by decide, rfl, fun w6 u6 => ?_⟩
  have z6 := u6.size
  have t5 : Tr [] w w5 := (((n1.tr.ext n2.tr).ext n3.tr).ext n4.tr).ext n5.tr
  have t6 : Tr [] w w6 := u6.ext t5 (by omega)
  have t46 : Tr [] w4 w6 := u6.ext n5.tr (by omega)
  have B3 : Blk w6 b3 lc 27 := (show Blk w1 b3 lc _ from n1.blk).ext (((n2.tr.ext n3.tr).ext n4.tr).ext t46)
  have B4 : Blk w6 b4 [.slice none 0 0] 29 := (show Blk w2 b4 _ _ from n2.blk).ext ((n3.tr.ext n4.tr).ext t46)
  have B5 : Blk w6 b5 [.int .i64 0] 32 := (show Blk w3 b5 _ _ from n3.blk).ext (n4.tr.ext t46)
  have B6 : Blk w6 b6 [.slice none 0 0] 29 := (show Blk w4 b6 _ _ from n4.blk).ext t46
  have B7 : Blk w6 b7 [.int .i64 0] 3 := u6.blk
  refine ⟨lc, B3.all, hlc, ?_⟩
  refine call (lines_calls w6 p lc) ?_
  rintro _ w7 ⟨c2, c3, rfl, C2, C3, t7, hc2, hc3⟩
  refine range_rule cx_ok (first := []) (cap := [.pointer (some ⟨c3, 0, none⟩), .pointer (some ⟨c2, 0, none⟩)]) (g := 57) rfl rfl ?_
  intro fn tmps bD l wa wb na nb hag
  have ea := na.num; have eb := nb.num; have za := na.size; have zb := nb.size; have z7 := t7.size
  have tb7 : Tr [] w7 wb := na.tr.ext nb.tr
  have tb : Tr [] w wb := (t6.ext t7).ext tb7
  have hbD : wb.heap[bD]? = some (.deferred (some [])) := nb.tr.get na.get (by simp)
  have D4 := (B4.ext t7).ext tb7
  have D5 := (B5.ext t7).ext tb7
  have D6 := (B6.ext t7).ext tb7
  have D7 := (B7.ext t7).ext tb7
  have E2 := C2.ext tb7
  have E3 := C3.ext tb7
  have hmb := h.ext tb
  have hgb := hg.ext tb
  have hfl := h.foot_lt
  have hc2l := C2.lt; have hc3l := C3.lt
  -- what holds at the head of a round
  let J : Nat → World → Prop := fun i W => Tr [l, b6, b7] wb W ∧ W.heap[l]? = wb.heap[l]? ∧ ∃ S sv Z, rdTo (shf rows from_) i = some S ∧ Blk W b6 [sv] 29 ∧ Blk W b7 [.int .i64 (i : Nat)] 3 ∧ SlW W sv Z ∧ Z.map (·.1) = S ∧ ∀ b ∈ sblocks sv Z, wb.heap.size ≤ b
  let X : World → Prop := fun W => rdTo (shf rows from_) n = none ∧ Tr [l, b4, b5, b6, b7] wb W ∧ Blk W b4 [.slice none 0 0] 29 ∧ Blk W b5 [.int .i64 9] 32 ∧ ∃ lp, W.heap[l]? = some (.loop lp) ∧ lp.state = .done ∧ lp.pending = some .ret
  have hJmem : ∀ i W, J i W → MemX W p bl bm rows evv span nev ∧ Gl W ∧ Blk W c2 [.pointer (some ⟨p, 0, none⟩)] 23 ∧ Blk W c3 lc 27 := by
    rintro i W ⟨tJ, _⟩
    refine ⟨hmb.tr tJ fun b hb hm => ?_, hgb.tr tJ fun b hb => ?_, E2.tr tJ (by simp; omega), E3.tr tJ (by simp; omega)⟩
    · have := hfl b hm
      simp at hb
      omega
    · have := hg.size
      simp at hb
      omega
  have hJS : ∀ i W W', J i W → Tr [] W W' → J i W' := by
    rintro i W W' ⟨tJ, hlJ, S, sv, Z, hS, K6, K7, hZ, hZS, hb⟩ t
    have zJ := tJ.size
    refine ⟨tJ.trans t (fun _ h => h) (fun _ h _ => by cases h), ?_, S, sv, Z, hS, K6.ext t, K7.ext t, hZ.ext t, hZS, hb⟩
    rw [t.keep l (by omega) (by simp), hlJ]
  refine call (lines1_calls (p := p) (bl := bl) (bm := bm) (rows := rows) (evv := evv) (span := span) (nev := nev) l lc from_ n h3 h4 hfit c3 c2 J X hJmem hJS ?_ wb ?_) ?_
  · rintro i r W hi hr hJi
    have hJi' := hJi
    obtain ⟨hm, _⟩ := hJmem i W hJi'
    obtain ⟨tJ, hlJ, S, sv, Z, hS, K6, K7, hZ, hZS, hbs⟩ := hJi
    have zW := tJ.size
    have hmok := hm.ok r (List.mem_of_getElem? hr)
    have hf : shf rows from_ i = shr r := by unfold shf; rw [hr]; rfl
    obtain ⟨o, ho⟩ : ∃ o, o = shr r := ⟨_, rfl⟩
    rw [← ho] at hf ⊢
    have hl8 : (optCells o).length = 8 := by
      rcases o with _ | ws
      · rfl
      · exact wcells_len (hmok.shows ho.symm)
    have hone : (optCells o).all E.one = true := by
      rcases o with _ | ws
      · rfl
      · exact wcells_one _
    refine round_rule cx_ok [14, 15] (hlJ.trans nb.get) rfl rfl rfl hag rfl ?_
    intro b8 W1 m1
    have em := m1.num; have zm := m1.size
    refine ⟨_, _, m1.blk, hl8, by show 0 + 8 ≤ 8; decide, hone, ?_⟩
    intro W2 v2
    have zv := v2.size
    have F8 : Blk W2 b8 (optCells o) 46 := Upd.whole v2 rfl hl8
    have hl2 : W2.heap[l]? = wb.heap[l]? := by
      rw [v2.tr.keep l (by omega) (by simp; omega), m1.tr.keep l (by omega) (by simp), hlJ]
    refine ⟨hl2.trans nb.get, ?_⟩
    intro W3 v3
    have zv3 := v3.size
    have tW2 : Tr [] W W2 := v2.ext m1.tr (by omega)
    have tW3 : Tr [l] W W3 := tW2.of_ext.same v3.tr
    have t3 : Tr [l, b6, b7] wb W3 := (tJ.trans tW2 (fun _ h => h) (fun _ h _ => by cases h)).trans v3.tr (fun _ h => h) (fun c h _ => by simp at h; simp [h])
    have F8 := F8.tr v3.tr (by simp; omega)
    have K6' := K6.tr tW3 (by simp; omega)
    have K7' := K7.tr tW3 (by simp; omega)
    have hZ' : SlW W3 sv Z := hZ.tr tW3 fun b hb hm => by have := hbs b hm; simp at hb; omega
    -- the end of a round
    have fin : ∀ (W4 : World) (S' : List Sl) (sv' : Value) (Z' : List (Sl × Value)), Tr [l, b6, b7] wb W4 → W4.heap[l]? = W3.heap[l]? → rdTo (shf rows from_) (i + 1) = some S' → Blk W4 b6 [sv'] 29 → Blk W4 b7 [.int .i64 (i : Nat)] 3 → SlW W4 sv' Z' → Z'.map (·.1) = S' → (∀ b ∈ sblocks sv' Z', wb.heap.size ≤ b) →
        W4.cell? ⟨b7, 0, none⟩ = some (.int .i64 (i : Nat)) ∧ ∃ c, IntKind.i64.wrap ((i : Int) + 1) = c ∧ ∃ A T, Blk W4 b7 A T ∧ 0 < A.length ∧ E.one (.int .i64 c) = true ∧ ∀ W5, Upd W4 b7 (.cells (A.set 0 (.int .i64 c)).toArray T) W5 →
          ∃ lp, W5.heap[l]? = some (.loop lp) ∧ ∀ W6, Upd W5 l (.loop { lp with state := .ready, pending := none }) W6 → (Value.bool true = .bool true ∧ J (i + 1) W6) ∨ (Value.bool true = .bool false ∧ X W6) := by
      intro W4 S' sv' Z' t4 hl4 hS' G6 G7 hZ4 hZS' hb4
      refine ⟨G7.cell rfl, ((i + 1 : Nat) : Int), by rw [w64 (by omega)]; omega, _, _, G7, by show 0 < 1; decide, rfl, fun W5 u5 => ?_⟩
      have z4 := t4.size; have z5' := u5.size
      refine ⟨_, u5.tr.get (hl4.trans v3.get) (by simp; omega), fun W6 u6' => .inl ⟨rfl, ?_⟩⟩
      refine ⟨(t4.trans u5.tr (fun _ h => h) (fun c h _ => by simp at h; simp [h])).trans u6'.tr (fun _ h => h) (fun c h _ => by simp at h; simp [h]), ?_, S', sv', Z', hS', (G6.tr u5.tr (by simp; omega)).tr u6'.tr (by simp; omega), u5.blk.tr u6'.tr (by simp; omega), (hZ4.tr u5.tr fun b hb hm => ?_).tr u6'.tr (fun b hb hm => ?_), hZS', hb4⟩
      · rw [u6'.get, nb.get]
      · have := hb4 b hm; simp at hb; omega
      · have := hb4 b hm; simp at hb; omega
    rcases o with _ | ws
    · -- a line that is rotten
      refine ⟨fun h => absurd h (by decide), fun _ => ?_⟩
      have G4 := D4.tr t3 (by simp; omega)
      have G5 := D5.tr t3 (by simp; omega)
      refine ⟨_, _, G4, by show 0 < 1; decide, rfl, fun W4 u4 => ?_⟩
      refine ⟨_, _, G5.tr u4.tr (by simp; omega), by show 0 < 1; decide, rfl, fun W5 u5 => ?_⟩
      have z4 := u4.size; have z5' := u5.size
      refine ⟨_, u5.tr.get (u4.tr.get v3.get (by simp; omega)) (by simp; omega), fun W6 u6' => .inr ⟨rfl, rdTo_none hf n hi, ?_, ?_, ?_, _, u6'.get, rfl, rfl⟩⟩
      · have q4 : Tr [l, b4, b5, b6, b7] wb W4 := t3.trans u4.tr (fun c h => by simp at h ⊢; omega) (fun c h _ => by simp at h; simp [h])
        have q5 : Tr [l, b4, b5, b6, b7] wb W5 := q4.trans u5.tr (fun _ h => h) (fun c h _ => by simp at h; simp [h])
        exact q5.trans u6'.tr (fun _ h => h) (fun c h _ => by simp at h; simp [h])
      · exact (u4.blk.tr u5.tr (by simp; omega)).tr u6'.tr (by simp; omega)
      · exact u5.blk.tr u6'.tr (by simp; omega)
    · have h8 := hmok.shows ho.symm
      obtain ⟨x0, hx0, hx040, hg0, hc0⟩ := h8.at (k := 0) (by omega)
      obtain ⟨x1, hx1, hx140, hg1, hc1⟩ := h8.at (k := 1) (by omega)
      have hrd : rdTo (shf rows from_) (i + 1) = some (S ++ slotOf i ws) := by
        show (match rdTo (shf rows from_) i, shf rows from_ i with | some S, some ws => some (S ++ slotOf i ws) | _, _ => none) = _
        rw [hS, hf]
      refine ⟨fun _ => ?_, fun h => absurd rfl h⟩
      refine ⟨0, rfl, by decide, _, F8.cell hc0, fun hz => ?_, fun hnz => ?_⟩
      · -- a free slot
        have hz' : x0 = 0 := by omega
        refine ⟨_, fin W3 _ sv Z t3 rfl hrd K6' K7' hZ' ?_ hbs⟩
        rw [hZS, slotOf, if_pos (by rw [hg0]; exact hz')]
        simp
      · have hz' : x0 ≠ 0 := by omega
        have hlws := h8.len
        obtain ⟨xs, hxs⟩ : ∃ xs, xs = ws.drop 2 := ⟨_, rfl⟩
        have hxl : xs.length = 6 := by rw [hxs, List.length_drop, hlws]
        have hcx : Cells W3 b8 2 (icells xs) := fun j v hv => by
          have : (wcells ws)[2 + j]? = some v := by
            rw [hxs] at hv
            unfold icells at hv
            rw [List.getElem?_map, List.getElem?_drop] at hv
            unfold wcells
            rw [List.getElem?_map]
            exact hv
          exact F8.cell this
        refine ⟨2, 8, rfl, rfl, by decide, by decide, ?_⟩
        refine call (Index_calls W3 xs (.slice (some ⟨b8, 2, none⟩) 6 6) ⟨_, _, by rw [hxl], by omega, .inr ⟨b8, 2, rfl, hcx⟩⟩ (by omega) 0) ?_
        rintro _ _ ⟨rfl, rfl⟩
        obtain ⟨nn, hnn⟩ : ∃ nn, nn = (blocksOf ws).length := ⟨_, rfl⟩
        have hnn6 : nn ≤ 6 := by rw [hnn]; exact blocks_le hlws
        have hidx : idxOf xs 0 = if nn < 6 then (nn : Int) else -1 := by
          rw [idx_zero, hxl, hnn, hxs]; rfl
        refine join (c := cx) (r := some l) (N := 42) (e0 := [(6, .pointer (some ⟨b6, 0, none⟩)), (7, .pointer (some ⟨b7, 0, none⟩)), (8, .pointer (some ⟨b8, 0, none⟩)), (10, .int .i64 (nn : Nat))]) (ds := []) (w := W3)
          (fun key => ⟨fun hneg => G.sub ?_ key, fun hpos => G.sub ?_ key⟩) ?_
        · have hn6 : nn = 6 := by
            rw [hidx] at hneg
            split at hneg <;> omega
          refine ⟨rfl, rfl, rfl, ?_, trivial⟩
          show some (Value.int .i64 6) = some (.int .i64 (nn : Nat))
          rw [hn6]
          rfl
        · have hix : idxOf xs 0 = (nn : Int) := by
            rw [hidx] at hpos ⊢
            split at hpos
            · rw [if_pos (by assumption)]
            · omega
          refine ⟨rfl, rfl, rfl, ?_, trivial⟩
          show some (Value.int .i64 (idxOf xs 0)) = some (.int .i64 (nn : Nat))
          rw [hix]
        have hsvn : ∀ b, sv.ownBlock = some b → wb.heap.size ≤ b ∧ b < W.heap.size := fun b hb => ⟨hbs b (in_sv hb), hZ.lt b (in_sv hb)⟩
        have hsvS : ∀ b ∈ sv.ownBlock.toList, wb.heap.size ≤ b ∧ b < W.heap.size := fun b hb => hsvn b (by simpa using hb)
        have nb6 : b6 ∉ sv.ownBlock.toList := fun hm => by have := hsvS _ hm; omega
        have nb7 : b7 ∉ sv.ownBlock.toList := fun hm => by have := hsvS _ hm; omega
        have nb8 : b8 ∉ sv.ownBlock.toList := fun hm => by have := hsvS _ hm; omega
        have nl : l ∉ sv.ownBlock.toList := fun hm => by have := hsvS _ hm; omega
        refine draw_rule cx_ok sv.ownBlock.toList (Plan.takes [0, 1, 2, 3, 4, 5, 6, 7, 8] (.one true 9 (Plan.takes [10] (.one true 11 (.one true 12 (.one false 13 .done)))))) (by kernel_rfl) ?_
        intro W4 d
        have zd := d.tr.size
        refine ⟨_, fun w' t => t.cell (K6'.cell rfl) nb6, _, fun w' t => t.cell (K7'.cell rfl) nb7, 0, rfl, by decide, _, fun w' t => t.cell (F8.cell hc0) nb8, 1, rfl, by decide, _, fun w' t => t.cell (F8.cell hc1) nb8, ((2 + nn : Nat) : Int), by rw [w64 (by omega)]; omega, 2, 2 + nn, rfl, rfl, by omega, by show 2 + nn ≤ 8; omega, ?_⟩
        refine ⟨?_, trivial⟩
        have hcb : Cells W4 b8 2 (icells (blocksOf ws)) := fun j v hv => by
          unfold icells at hv
          rw [List.getElem?_map] at hv
          obtain ⟨x, hx, rfl⟩ := Option.map_eq_some_iff.1 hv
          have := blocks_get hx
          exact (F8.ext d.tr).cell (show (wcells ws)[2 + j]? = _ by unfold wcells; rw [List.getElem?_map, this]; rfl)
        refine call (clone_int_calls W4 b8 2 (2 + nn - 2) 6 (icells (blocksOf ws)) (by rw [icells_len, ← hnn]; omega) hcb (icells_one _) (by omega)) ?_
        rintro bv W5 ⟨hbv, t5', bb, hbb, hbbf⟩
        have z5' := t5'.size
        have q5 : Tr [] W3 W5 := d.tr.ext t5'
        refine ⟨q5.of_ext, ?_⟩
        obtain ⟨av, cv, hbve⟩ := Row.slice hbv
        have hbv' : Row W5 3 1 bv (blocksOf ws).length (icells (blocksOf ws)) := by
          have : 2 + nn - 2 = (blocksOf ws).length := by omega
          rw [← this]; exact hbv
        subst hbve
        refine ⟨_, rfl, ?_⟩
        refine ⟨⟨_, rfl, fun b11 W6 m6 => ⟨(q5.ext m6.tr).of_ext, ?_⟩⟩, trivial⟩
        have e6 := m6.num; have z6' := m6.size
        have q6 : Tr [] W3 W6 := q5.ext m6.tr
        obtain ⟨zn, hzn⟩ : ∃ zn : Sl × Value, zn = (⟨i, x0, x1, blocksOf ws⟩, .slice av (2 + nn - 2) cv) := ⟨_, rfl⟩
        have hcz : Cells W6 b11 0 (zcells zn) := by rw [hzn]; exact m6.blk.all
        refine ⟨?_, trivial⟩
        refine append_own cx_ok (x := ⟨1, 24, false, [.slice none 0 0], .slice 54⟩) rfl rfl rfl (by decide) (hZ'.ext q6).row b11 0 1 1 (zcells zn) rfl hcz (by rw [hzn]; rfl) ?_ (by decide) ?_
        · have : Z.length = S.length := by rw [← hZS]; simp
          have hle : ∀ k, k ≤ n → ∀ S, rdTo (shf rows from_) k = some S → S.length ≤ k := by
            intro k
            induction k with
            | zero => intro _ S hS; simp [rdTo] at hS; subst hS; simp
            | succ k ih =>
              intro hk S hS
              unfold rdTo at hS
              split at hS
              · rename_i S1 ws1 h1 h2
                obtain rfl := Option.some.inj hS
                have := ih (by omega) S1 h1
                have : (slotOf k ws1).length ≤ 1 := by unfold slotOf; split <;> simp
                simp only [List.length_append]
                omega
              · cases hS
          have := hle i (by omega) S hS
          omega
        intro v' W7 hv' t7' hat _
        have z7' := t7'.size
        have q7 : Tr sv.ownBlock.toList W3 W7 := q6.of_ext.trans t7' (fun _ h => h) (fun _ h _ => h)
        refine ⟨q7, ?_⟩
        have G6 := K6'.tr q7 nb6
        refine ⟨⟨_, _, G6, by show 0 < 1; decide, Row.one hv', fun W8 u8 => ?_⟩, trivial⟩
        have z8 := u8.size
        have hbl : ∀ b, zn.2.ownBlock = some b → W4.heap.size ≤ b := fun b hb => by
          rw [hzn] at hb
          have : some bb = some b := hbb.symm.trans hb
          have := Option.some.inj this
          omega
        have hZ7 : SlW W7 v' (Z ++ [zn]) := (hZ'.ext q6).snoc (z := zn) (by rw [hzn]; exact Row.tr hbv' m6.tr (by simp)) (fun b hb ho' => by
          have := hbl b hb
          have := (hsvn b ho').2
          omega) hv' t7' hat
        have hbs7 : ∀ b ∈ sblocks v' (Z ++ [zn]), wb.heap.size ≤ b ∧ b ≠ b6 := fun b hb => by
          simp only [sblocks, List.mem_append, Option.mem_toList, List.flatMap_append, List.flatMap_cons, List.flatMap_nil, List.append_nil, ownZ] at hb
          have : wb.heap.size ≤ b := by
            rcases hb with hb | hb | hb
            · rcases hat with e | e
              · exact (hsvn b (e ▸ hb)).1
              · rw [e] at hb; have := Option.some.inj hb; omega
            · exact hbs b (List.mem_append_right _ hb)
            · have := hbl b hb
              omega
          exact ⟨this, by omega⟩
        have q8 : Tr [l, b6, b7] wb W8 := (t3.trans q7 (fun _ h => h) (fun c h hlt => by have := hsvS c h; omega)).trans u8.tr (fun _ h => h) (fun c h _ => by simp at h; simp [h])
        have hl8' : W8.heap[l]? = W3.heap[l]? := by
          rw [u8.tr.keep l (by omega) (by simp; omega), q7.keep l (by omega) nl]
        refine ⟨_, fin W8 _ v' (Z ++ [zn]) q8 hl8' hrd u8.blk ((K7'.tr q7 nb7).tr u8.tr (by simp; omega)) (hZ7.tr u8.tr fun b hb hm => ?_) ?_ fun b hb => (hbs7 b hb).1⟩
        · have := (hbs7 b hm).2
          simp at hb
          exact this hb
        · rw [List.map_append, hZS, slotOf, if_neg (by rw [hg0]; exact hz'), hg0, hg1, hzn]
          rfl
  · refine ⟨Tr.refl _ _, rfl, [], .slice none 0 0, [], rfl, D6, D7, SlW.nil _, rfl, ?_⟩
    intro b hb
    simp [sblocks, Value.ownBlock] at hb
  · rintro _ w8 (⟨tJ, hlJ, S, sv, Z, hS, K6, K7, hZ, hZS, hbs⟩ | ⟨hnone, tX, X4, X5, lp, hlp, hst, hpend⟩)
    · have z8 := tJ.size
      refine ⟨_, hlJ.trans nb.get, by simp, fun w9 u9 => ?_⟩
      have z9 := u9.size
      have t9 : Tr [l, b6, b7] wb w9 := tJ.trans u9.tr (fun _ h => h) (fun c h _ => by simp at h; simp [h])
      refine ⟨_, (K6.tr u9.tr (by simp; omega)).cell rfl, ?_⟩
      refine ⟨_, _, D4.tr t9 (by simp; omega), by show 0 < 1; decide, Row.one hZ.row, fun w10 u10 => ?_⟩
      refine ⟨_, _, (D5.tr t9 (by simp; omega)).tr u10.tr (by simp; omega), by show 0 < 1; decide, rfl, fun w11 u11 => ?_⟩
      have z10 := u10.size; have z11 := u11.size
      refine ⟨u11.tr.get (u10.tr.get (t9.get hbD (by simp; omega)) (by simp; omega)) (by simp; omega), fun w12 u12 => ?_⟩
      refine ⟨_, ((u10.blk.tr u11.tr (by simp; omega)).tr u12.tr (by simp; omega)).cell rfl, _, (u11.blk.tr u12.tr (by simp; omega)).cell rfl, ?_⟩
      have tt : Tr [] w w9 := tb.trans t9 (fun _ h => h) (fun c hc hlt => by simp at hc; omega)
      refine ⟨u12.ext (u11.ext (u10.ext tt (by omega)) (by omega)) (by omega), ?_⟩
      rw [hS]
      refine ⟨sv, Z, rfl, ?_, hZS, fun b hb => by have := hbs b hb; omega⟩
      refine (((hZ.tr u9.tr fun b hb hm => ?_).tr u10.tr fun b hb hm => ?_).tr u11.tr fun b hb hm => ?_).tr u12.tr fun b hb hm => ?_
      all_goals have := hbs b hm; simp at hb; omega
    · refine ⟨lp, hlp, by rw [hst]; simp, fun w9 u9 => ?_⟩
      rw [hpend]
      have zX := tX.size; have z9 := u9.size
      refine ⟨u9.tr.get (tX.get hbD (by simp; omega)) (by simp; omega), fun w12 u12 => ?_⟩
      refine ⟨_, ((X4.tr u9.tr (by simp; omega)).tr u12.tr (by simp; omega)).cell rfl, _, ((X5.tr u9.tr (by simp; omega)).tr u12.tr (by simp; omega)).cell rfl, ?_⟩
      have tt : Tr [] w w8 := tb.trans tX (fun _ h => h) (fun c hc hlt => by simp at hc; omega)
      refine ⟨u12.ext (u9.ext tt (by omega)) (by omega), ?_⟩
      rw [hnone]
      rfl

end

end Go.Proofs.YtlfolinjajjgjaaDoor
