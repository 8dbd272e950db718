/- The specification of the slots: Added, Do. -/
import Derived.Test.YtlfolinjajjgjaaDoorA3
namespace Go.Proofs.YtlfolinjajjgjaaDoor
open Go.E

def addB (s : Sl) (x : Nat) : Sl := { s with blocks := s.blocks ++ [x] }
def refAdded (S : List Sl) (n : Nat) (owner x : Int) : Int × List Sl :=
  if badA owner x then (1, []) else if twiceA S x then (6, []) else if stampedA S owner then (4, []) else
    match S.findIdx? (roomA owner) with
    | some a => (0, S.set a (addB (S.getD a ⟨0, 0, 0, []⟩) x.toNat))
    | none => openF S n owner.toNat [x.toNat]

section
variable {w : World}

set_option maxHeartbeats 2000000 in
theorem Added_calls {Z : List (Sl × Value)} {s : Value} {D : Nat → Prop} (hs : SlD w s Z D) (hn1 : Z.length < 1048576) (hb6 : ∀ z ∈ Z, z.1.blocks.length < 1048576) (hD : ∀ b, D b → b < w.heap.size) (n : Nat) (hn64 : n ≤ 1048576) (owner x : Int) :
    Calls cx.P 33 #[s, .int .i64 (n : Nat), .int .i64 owner, .int .i64 x] w (Ret fun v w' => Tr [] w w' ∧ SlotsQ w w' D v (refAdded (Z.map (·.1)) n owner x).1 (refAdded (Z.map (·.1)) n owner x).2) := by
  have hs0 := hs
  obtain ⟨hn, ⟨a, c, rfl, _, hsl⟩, hblk⟩ := hs
  refine calls_body cx_ok (args := [.slice a Z.length c, .int .i64 (n : Nat), .int .i64 owner, .int .i64 x]) Tryd.func33 rfl 105 rfl rfl [.cell 8 34] rfl ?_
  intro b8 w1 n1
  have e1 := n1.num; have z1 := n1.size
  have B8 : Blk w1 b8 [.slice none 0 0, .int .i64 0] 34 := n1.blk
  obtain ⟨S, hS⟩ : ∃ S, S = Z.map (·.1) := ⟨_, rfl⟩
  have hslr := (hs0.ext n1.tr).slr
  rw [← hS] at hslr ⊢
  obtain ⟨R, hR⟩ : ∃ R, R = refAdded S n owner x := ⟨_, rfl⟩
  rw [← hR]
  have hadd : R = if badA owner x then ((1 : Int), []) else if twiceA S x then (6, []) else if stampedA S owner then (4, []) else
    match S.findIdx? (roomA owner) with
    | some a => (0, S.set a (addB (S.getD a ⟨0, 0, 0, []⟩) x.toNat))
    | none => openF S n owner.toNat [x.toNat] := by rw [hR]; rfl
  have err : ∀ (e : Int), e ≠ 0 → R = (e, []) → ∀ w2, Upd w1 b8 (.cells (splice [.slice none 0 0, .int .i64 0] 0 2 [.slice none 0 0, .int .i64 e]).toArray 34) w2 → Tr [] w w2 ∧ SlotsQ w w2 D (.agg #[.slice none 0 0, .int .i64 e]) R.1 R.2 := by
    intro e he hRe w2 u2
    rw [hRe]
    exact ⟨u2.ext n1.tr (by omega), SlotsQ.err he _⟩
  refine ⟨fun h1 => ?_, fun h1 => ⟨fun h2 => ?_, fun h2 => ⟨fun h3 => ?_, fun h3 => ?_⟩⟩⟩
  · refine ⟨_, rfl, _, _, B8, rfl, by show 0 + 2 ≤ 2; decide, rfl, fun w2 u2 => ?_⟩
    exact ⟨_, u2.blk.all, rfl, err 1 (by decide) (by rw [hadd, if_pos (by simp [badA, h1])]) w2 u2⟩
  · refine ⟨_, rfl, _, _, B8, rfl, by show 0 + 2 ≤ 2; decide, rfl, fun w2 u2 => ?_⟩
    exact ⟨_, u2.blk.all, rfl, err 1 (by decide) (by rw [hadd, if_pos (by simp [badA, h2])]) w2 u2⟩
  · refine ⟨_, rfl, _, _, B8, rfl, by show 0 + 2 ≤ 2; decide, rfl, fun w2 u2 => ?_⟩
    exact ⟨_, u2.blk.all, rfl, err 1 (by decide) (by rw [hadd, if_pos (by simp [badA, h3])]) w2 u2⟩
  refine call (Right07_calls' x w1) ?_
  rintro _ _ ⟨rfl, rfl⟩
  cases hrp : rightP x with
  | false =>
    refine ⟨_, rfl, _, _, B8, rfl, by show 0 + 2 ≤ 2; decide, rfl, fun w2 u2 => ?_⟩
    exact ⟨_, u2.blk.all, rfl, err 1 (by decide) (by rw [hadd, if_pos (by simp [badA, hrp])]) w2 u2⟩
  | true =>
  have hgood : badA owner x = false := by
    unfold badA
    rw [hrp, decide_eq_false (by omega)]
    rfl
  rw [if_neg (by rw [hgood]; decide)] at hadd
  obtain ⟨ow, rfl⟩ := Int.eq_ofNat_of_zero_le (show 0 ≤ owner by omega)
  have hx0 : 0 ≤ x ∧ x < 4294967296 := by
    unfold rightP at hrp
    have := of_decide_eq_true hrp
    omega
  obtain ⟨xx, rfl⟩ := Int.eq_ofNat_of_zero_le hx0.1
  refine call (Has_calls S _ hslr (xx : Nat)) ?_
  rintro _ _ ⟨rfl, rfl⟩
  cases htw : twiceA S (xx : Nat) with
  | true =>
    refine ⟨_, rfl, _, _, B8, rfl, by show 0 + 2 ≤ 2; decide, rfl, fun w2 u2 => ?_⟩
    exact ⟨_, u2.blk.all, rfl, err 6 (by decide) (by rw [hadd, if_pos htw]) w2 u2⟩
  | false =>
  rw [if_neg (by rw [htw]; decide)] at hadd
  have hSl : S.length = Z.length := by rw [hS]; simp
  refine loop_rule cx_ok (α := Nat) (fun i W => i ≤ Z.length ∧ w1 = W ∧ stampedA (S.take i) (ow : Nat) = false)
    (fun i => [(0, .slice a Z.length c), (1, .int .i64 (n : Nat)), (2, .int .i64 (ow : Nat)), (3, .int .i64 (xx : Nat)), (8, .pointer (some ⟨b8, 0, none⟩)), (9, .int .i64 (atF S (ow : Nat) i)), (10, .int .i64 i)]) (fun i => Z.length - i) 0
    ⟨rfl, rfl, rfl, rfl, rfl, rfl, rfl, trivial⟩ ⟨by omega, rfl, rfl⟩ ?_
  rintro i _ ⟨hi, rfl, hst⟩
  refine ⟨fun hlt => ?_, fun hge => ?_⟩
  · have hix : i < Z.length := by omega
    obtain ⟨g, o, rfl, hg, hc⟩ := hsl.resolve_left (fun hh => by have := hh.2; omega)
    obtain ⟨z, hz⟩ : ∃ z, Z[i]? = some z := ⟨_, List.getElem?_eq_getElem hix⟩
    have hcz : Cells w1 g (o + i * 4) (zcells z) := (zcells_at hz hc).ext n1.tr
    have hSz : S[i]? = some z.1 := by rw [hS, List.getElem?_map, hz]; rfl
    have htk := take_snoc hSz
    have c1 : w1.cell? ⟨g, o + i * 4 + 1, none⟩ = some (.int .i64 (z.1.owner : Nat)) := hcz 1 _ rfl
    have c2 : w1.cell? ⟨g, o + i * 4 + 2, none⟩ = some (.int .i64 (z.1.stamp : Nat)) := hcz 2 _ rfl
    obtain ⟨ab, cb, hbv⟩ := (hblk z (List.mem_of_getElem? hz)).2.slice
    have c3 : w1.cell? ⟨g, o + i * 4 + 3, none⟩ = some (.slice ab z.1.blocks.length cb) := by rw [← hbv]; exact hcz 3 _ rfl
    have hw : IntKind.i64.wrap ((i : Int) + 1) = ((i + 1 : Nat) : Int) := by rw [w64 (by omega)]; omega
    have hat := atF_step (S := S) (owner := (ow : Nat)) (by omega) htk
    have hss := stF_step (S := S) (owner := (ow : Nat)) htk
    have next : ∀ q : Int, q = atF S (ow : Nat) (i + 1) → some (Value.int .i64 q) = some (Value.int .i64 (atF S (ow : Nat) (i + 1))) := fun q hq => by rw [hq]
    refine ⟨i, rfl, hix, _, c1, fun he => ?_, fun hne => ?_⟩
    · refine ⟨i, rfl, hix, _, c2, fun h0 => ?_, fun h0 => ?_⟩
      · have hs' : stampedA (S.take (i + 1)) (ow : Nat) = false := by
          rw [hss, hst, decide_eq_true he, decide_eq_false (by omega)]; rfl
        refine ⟨i, rfl, hix, _, c1, fun _ => ?_, fun hne => absurd he hne⟩
        refine ⟨fun ha => ?_, fun ha => ?_⟩
        · refine ⟨i, rfl, hix, _, c3, ⟨fun hl => ?_, fun hl => ?_⟩⟩
          · have hro : roomA (ow : Nat) z.1 = true := by unfold roomA; rw [decide_eq_true he, decide_eq_true (by omega)]; rfl
            exact ⟨_, hw, rfl, i + 1, ⟨rfl, rfl, rfl, rfl, rfl, next _ (by rw [hat, if_pos ⟨ha, hro⟩]), rfl, trivial⟩, ⟨hix, rfl, hs'⟩, by omega⟩
          · have hro : roomA (ow : Nat) z.1 = false := by unfold roomA; rw [decide_eq_false (show ¬ z.1.blocks.length < 6 by omega), Bool.and_false]
            exact ⟨_, hw, rfl, i + 1, ⟨rfl, rfl, rfl, rfl, rfl, next _ (by rw [hat, if_neg (by rw [hro]; simp)]), rfl, trivial⟩, ⟨hix, rfl, hs'⟩, by omega⟩
        · exact ⟨_, hw, rfl, i + 1, ⟨rfl, rfl, rfl, rfl, rfl, next _ (by rw [hat, if_neg (fun hh => ha hh.1)]), rfl, trivial⟩, ⟨hix, rfl, hs'⟩, by omega⟩
      · have hs' : stampedA S (ow : Nat) = true := by
          unfold stampedA
          exact List.any_eq_true.2 ⟨z.1, List.mem_of_getElem? hSz, by rw [decide_eq_true he, decide_eq_true (by omega)]; rfl⟩
        refine ⟨_, rfl, _, _, B8, rfl, by show 0 + 2 ≤ 2; decide, rfl, fun w2 u2 => ?_⟩
        exact ⟨_, u2.blk.all, rfl, err 4 (by decide) (by rw [hadd, if_pos hs']) w2 u2⟩
    · have hs' : stampedA (S.take (i + 1)) (ow : Nat) = false := by
        rw [hss, hst, decide_eq_false hne]; rfl
      have hro : roomA (ow : Nat) z.1 = false := by unfold roomA; rw [decide_eq_false hne]; rfl
      refine ⟨i, rfl, hix, _, c1, fun he => absurd he hne, fun _ => ?_⟩
      exact ⟨_, hw, rfl, i + 1, ⟨rfl, rfl, rfl, rfl, rfl, next _ (by rw [hat, if_neg (by rw [hro]; simp)]), rfl, trivial⟩, ⟨hix, rfl, hs'⟩, by omega⟩
  have hiS : i = S.length := by omega
  rw [hiS, List.take_length] at hst
  rw [if_neg (by rw [hst]; decide)] at hadd
  refine ⟨[], rfl, fun b2 w2 n2 => ?_⟩
  have e2 := n2.num
  have hD1 : ∀ b, D b → b < w1.heap.size := fun b hb => by have := hD b hb; omega
  refine Out.copy n2 hD1 (hs0.ext n1.tr) _ fun ov w3 hO3 t3 => ?_
  have z3 := t3.size
  have hatS : atF S (ow : Nat) i = match S.findIdx? (roomA (ow : Nat)) with
    | some a => (a : Int)
    | none => -1 := by unfold atF; rw [hiS, List.take_length]; rfl
  rw [hatS]
  cases hfi : S.findIdx? (roomA (ow : Nat)) with
  | some q =>
    rw [hfi] at hadd
    simp only at hadd
    obtain ⟨hqS, hroom, _⟩ := List.findIdx?_eq_some_iff_getElem.1 hfi
    have hqx : q < Z.length := by omega
    obtain ⟨z, hz⟩ : ∃ z, Z[q]? = some z := ⟨_, List.getElem?_eq_getElem hqx⟩
    have hSz : S[q]? = some z.1 := by rw [hS, List.getElem?_map, hz]; rfl
    rw [List.getD_eq_getElem?_getD, hSz] at hadd
    simp only [Option.getD_some] at hadd
    obtain ⟨g, o, rfl, hg, hc⟩ := hsl.resolve_left (fun hh => by have := hh.2; omega)
    have hbz := hblk z (List.mem_of_getElem? hz)
    have hcz : Cells w1 g (o + q * 4) (zcells z) := (zcells_at hz hc).ext n1.tr
    refine ⟨fun _ => ?_, fun h => absurd (Int.natCast_nonneg q) h⟩
    refine ⟨[], rfl, fun b4 w4 n4 => ?_⟩
    have e4 := n4.num; have z4 := n4.size
    have t4 : Tr [] w1 w4 := t3.ext n4.tr
    have c3 : w4.cell? ⟨g, o + q * 4 + 3, none⟩ = some z.2 := (hcz.ext t4) 3 _ rfl
    refine ⟨q, rfl, hqx, _, c3, ?_⟩
    have hbl := hb6 z (List.mem_of_getElem? hz)
    refine append_gen (x := ⟨1, 24, false, [.slice none 0 0], .slice 3⟩) (y := ⟨1, 8, false, [.int .i64 0], .int .i64⟩) rfl rfl rfl (by decide) (row_empty n4) (hbz.2.ext (n1.tr.ext t4)).sli (by rw [icells_len]; show _ = _ * 1; omega) (icells_one _) (by omega) (by decide) ?_
    intro v5 w5 hr5 t5 hat5
    have z5 := t5.size
    have t5' : Tr [] w3 w5 := n4.tr.trans t5 (fun _ h => h) (fun b hb hlt => by simp [Value.ownBlock] at hb; omega)
    have hv5 : ∀ b, v5.ownBlock = some b → w3.heap.size ≤ b := fun b hb => by
      rcases hat5 with e | e
      · rw [e] at hb; simp [Value.ownBlock] at hb; omega
      · rw [e] at hb; have := Option.some.inj hb; omega
    rw [Nat.zero_add, List.nil_append] at hr5
    refine ⟨_, rfl, fun b6 w6 n6 => ?_⟩
    have e6 := n6.num; have z6 := n6.size
    have B6 : Blk w6 b6 [.int .i64 (xx : Nat)] 3 := n6.blk
    refine append_own cx_ok (x := ⟨1, 24, false, [.slice none 0 0], .slice 3⟩) (y := ⟨1, 8, false, [.int .i64 0], .int .i64⟩) rfl rfl rfl (by decide) (Row.tr hr5 n6.tr (by simp)) b6 0 1 1 [.int .i64 (xx : Nat)] rfl B6.all rfl (by omega) (by decide) ?_
    intro v7 w7 hr7 t7 hat7 _
    have z7 := t7.size
    have t7' : Tr [] w3 w7 := (t5'.ext n6.tr).trans t7 (fun _ h => h) (fun b hb hlt => by have := hv5 b (by simpa using hb); omega)
    have hv7 : ∀ b, v7.ownBlock = some b → w3.heap.size ≤ b := fun b hb => by
      rcases hat7 with e | e
      · exact hv5 b (e ▸ hb)
      · rw [e] at hb; have := Option.some.inj hb; omega
    have hic : icells z.1.blocks ++ [Value.int .i64 (xx : Nat)] = icells (z.1.blocks ++ [xx]) := by simp [icells]
    rw [hic] at hr7
    -- the store into the list
    have hO7 := hO3.ext t7'
    have hrow := hO7.row
    rcases Row.elem hrow with ⟨_, h0⟩ | ⟨g3, cap, rfl, _, _, _⟩
    · omega
    refine ⟨q, rfl, hqx, ?_⟩
    have hg3 : g3 < w3.heap.size := Row.lt hO3.row rfl
    have hg3' : w1.heap.size ≤ g3 := hO3.own g3 rfl
    obtain ⟨z', hz'⟩ : ∃ z' : Sl × Value, z' = (addB z.1 xx, v7) := ⟨_, rfl⟩
    refine Row.store1 hrow rfl (by rw [zc_len]; show 0 + q * 4 + 3 < _; omega) (Row.one hr7) fun w8 t8 hr8 => ?_
    rw [show 0 + q * 4 + 3 = q * 4 + 3 by omega, zc_set (z' := z') hz (by decide) (by rw [hz']; rfl)] at hr8
    have z8 := t8.size
    have t8' : Tr [] w1 w8 := (t3.ext t7').trans t8 (fun _ h => h) (fun b hb hlt => by simp at hb; omega)
    refine ⟨_, rfl, _, _, B8.ext t8', rfl, by show 0 + 2 ≤ 2; decide, rfl, fun w9 u9 => ?_⟩
    have z9 := u9.size
    have hb8 : ∀ b, b ∈ [b8] → ¬ D b := fun b hb hd => by simp at hb; subst hb; have := hD _ hd; omega
    refine ⟨_, u9.blk.all, rfl, u9.ext (n1.tr.ext t8') (by omega), ?_⟩
    rw [hadd]
    refine ⟨_, rfl, fun _ => ⟨Z.set q z', ?_, ⟨by rw [List.length_set]; exact hn, ?_, ?_⟩⟩, rfl⟩
    · rw [hS, List.map_set, hz']; rfl
    · have hr9 := Row.tr hr8 u9.tr (fun b hb hm => by simp [Value.ownBlock] at hb hm; omega)
      rw [List.length_set]
      exact (Row.slid hr9).mono fun b hb => .inr (by simp [Value.ownBlock] at hb; omega)
    · intro y hy
      rcases List.mem_or_eq_of_mem_set hy with hy | rfl
      · have h1 := hblk y hy
        refine ⟨h1.1, ((h1.2.ext (n1.tr.ext t8')).tr u9.tr hb8).mono fun b hb => .inl hb⟩
      · rw [hz']
        have hr9 := (Row.tr (Row.tr hr7 t8 (fun b hb hm => by have := hv7 b hb; simp at hm; omega)) u9.tr (fun b hb hm => by have := hv7 b hb; simp at hm; omega))
        have hbl1 : (addB z.1 xx).blocks.length = z.1.blocks.length + 1 := by simp [addB]
        refine ⟨by rw [hbl1]; omega, ?_⟩
        show SliD w9 v7 (addB z.1 xx).blocks.length (icells (addB z.1 xx).blocks) _
        rw [hbl1]
        exact (Row.slid hr9).mono fun b hb => .inr ⟨by have := hv7 b hb; omega, Row.lt hr9 hb⟩
  | none =>
    rw [hfi] at hadd
    simp only at hadd
    refine ⟨fun h => absurd h (by decide), fun _ => ?_⟩
    refine ⟨_, rfl, fun b4 w4 n4 => ?_⟩
    have e4 := n4.num; have z4 := n4.size
    have B4 : Blk w4 b4 [.int .i64 (xx : Nat)] 3 := n4.blk
    obtain ⟨D', hD'⟩ : ∃ D' : Nat → Prop, D' = fun b => D b ∨ (w1.heap.size ≤ b ∧ b < w4.heap.size) := ⟨_, rfl⟩
    have hs4 : SlD w4 ov Z D' := by
      rw [hD']
      exact ((hO3.ext n4.tr).fin hn)
    have hb4 : SliD w4 (.slice (some ⟨b4, 0, none⟩) 1 1) 1 (icells [xx]) D' := ⟨_, 1, rfl, Nat.le_refl _, .inr ⟨b4, 0, rfl, by rw [hD']; exact .inr (by omega), B4.all⟩⟩
    refine call (opened_calls hs4 hn1 (fun b hb => by rw [hD'] at hb; rcases hb with hb | hb; have := hD1 b hb; omega; omega) n hn64 ow [xx] hb4 (by simp)) ?_
    rintro _ w5 ⟨t5, sv, rfl, hq, hone⟩
    have z5 := t5.size
    have t5' : Tr [] w1 w5 := (t3.ext n4.tr).ext t5
    rw [← hS] at hq ⊢
    have hadd' : R = openF S n ow [xx] := by rw [hadd]; simp
    rw [← hadd'] at hq ⊢
    refine ⟨_, _, B8.ext t5', rfl, by show 0 + 2 ≤ 2; decide, by show (E.one sv && (true && true)) = true; rw [hone]; rfl, fun w6 u6 => ?_⟩
    have z6 := u6.size
    refine ⟨_, u6.blk.all, rfl, u6.ext (n1.tr.ext t5') (by omega), sv, rfl, fun h => ?_, hone⟩
    obtain ⟨Z', hZ', hsl'⟩ := hq h
    have hb8 : ∀ b, b ∈ [b8] → ¬ (D' b ∨ (w4.heap.size ≤ b ∧ b < w5.heap.size)) := fun b hb hd => by
      simp at hb; subst hb
      rw [hD'] at hd
      rcases hd with (hd | hd) | hd
      · have := hD _ hd; omega
      · omega
      · omega
    refine ⟨Z', hZ', (hsl'.tr u6.tr hb8).mono fun b hb => ?_⟩
    rw [hD'] at hb
    rcases hb with (hb | hb) | hb
    · exact .inl hb
    · exact .inr (by omega)
    · exact .inr (by omega)

def refDo (S : List Sl) (n : Nat) (kind owner x : Int) : Int × List Sl := if kind = 0 then refClosed S owner else if kind = 1 then refStamped S owner x else refAdded S n owner x

theorem Do_calls {Z : List (Sl × Value)} {s : Value} {D : Nat → Prop} (hs : SlD w s Z D) (hn1 : Z.length < 1048576) (hb6 : ∀ z ∈ Z, z.1.blocks.length < 1048576) (hD : ∀ b, D b → b < w.heap.size) (n : Nat) (hn64 : n ≤ 1048576) (kind owner x : Int) :
    Calls cx.P 9 #[s, .int .i64 (n : Nat), .agg #[.int .i64 kind, .int .i64 owner, .int .i64 x]] w (Ret fun v w' => Tr [] w w' ∧ SlotsQ w w' D v (refDo (Z.map (·.1)) n kind owner x).1 (refDo (Z.map (·.1)) n kind owner x).2) := by
  refine calls_body cx_ok (args := [s, .int .i64 (n : Nat), .agg #[.int .i64 kind, .int .i64 owner, .int .i64 x]]) Tryd.func9 rfl 30 rfl rfl [.cell 6 34] rfl ?_
  intro b5 w1 n1 b6 w2 n2
  have e1 := n1.num; have z1 := n1.size; have e2 := n2.num; have z2 := n2.size
  have t2 : Tr [] w w2 := n1.tr.ext n2.tr
  have B5 : Blk w2 b5 [.int .i64 kind, .int .i64 owner, .int .i64 x] 31 := (show Blk w1 b5 [.int .i64 kind, .int .i64 owner, .int .i64 x] _ from n1.blk).ext n2.tr
  have B6 : Blk w2 b6 [.slice none 0 0, .int .i64 0] 34 := n2.blk
  have hD2 : ∀ b, D b → b < w2.heap.size := fun b hb => by have := hD b hb; omega
  have hs2 := hs.ext t2
  have fin : ∀ (e : Int) (S' : List Sl) (w3 : World) (sv : Value), Tr [] w2 w3 → (e = 0 → ∃ Z, Z.map (·.1) = S' ∧ SlD w3 sv Z fun b => D b ∨ (w2.heap.size ≤ b ∧ b < w3.heap.size)) → E.one sv = true → ∀ w4 o, Upd w3 b6 o w4 → Tr [] w w4 ∧ SlotsQ w w4 D (.agg #[sv, .int .i64 e]) e S' := by
    intro e S' w3 sv t3 hq hone w4 o u4
    have z3 := t3.size; have z4 := u4.size
    refine ⟨u4.ext (t2.ext t3) (by omega), sv, rfl, fun h => ?_, hone⟩
    obtain ⟨Z', hZ', hsl'⟩ := hq h
    refine ⟨Z', hZ', (hsl'.tr u4.tr fun b hb hd => ?_).mono fun b hb => hb.imp_right fun h => ⟨by omega, by omega⟩⟩
    simp at hb; subst hb
    rcases hd with hd | hd
    · have := hD _ hd; omega
    · omega
  refine ⟨_, B5.cell rfl, fun h0 => ?_, fun h0 => ⟨fun h1 => ?_, fun h1 => ?_⟩⟩
  · have hd : refDo (Z.map (·.1)) n kind owner x = refClosed (Z.map (·.1)) owner := by unfold refDo; rw [if_pos h0]
    rw [hd]
    refine ⟨_, B5.cell rfl, ?_⟩
    refine call (Closed_calls hs2 hD2 owner) ?_
    rintro _ w3 ⟨t3, sv, rfl, hq, hone⟩
    refine ⟨_, _, B6.ext t3, rfl, by show 0 + 2 ≤ 2; decide, by show (E.one sv && (true && true)) = true; rw [hone]; rfl, fun w4 u4 => ?_⟩
    exact ⟨_, u4.blk.all, rfl, fin _ _ w3 sv t3 hq hone w4 _ u4⟩
  · have hd : refDo (Z.map (·.1)) n kind owner x = refStamped (Z.map (·.1)) owner x := by unfold refDo; rw [if_neg h0, if_pos h1]
    rw [hd]
    refine ⟨_, B5.cell rfl, _, B5.cell rfl, ?_⟩
    refine call (Stamped_calls hs2 hD2 owner x) ?_
    rintro _ w3 ⟨t3, sv, rfl, hq, hone⟩
    refine ⟨_, _, B6.ext t3, rfl, by show 0 + 2 ≤ 2; decide, by show (E.one sv && (true && true)) = true; rw [hone]; rfl, fun w4 u4 => ?_⟩
    exact ⟨_, u4.blk.all, rfl, fin _ _ w3 sv t3 hq hone w4 _ u4⟩
  · have hd : refDo (Z.map (·.1)) n kind owner x = refAdded (Z.map (·.1)) n owner x := by unfold refDo; rw [if_neg h0, if_neg h1]
    rw [hd]
    refine ⟨_, B5.cell rfl, _, B5.cell rfl, ?_⟩
    refine call (Added_calls hs2 hn1 hb6 hD2 n hn64 owner x) ?_
    rintro _ w3 ⟨t3, sv, rfl, hq, hone⟩
    refine ⟨_, _, B6.ext t3, rfl, by show 0 + 2 ≤ 2; decide, by show (E.one sv && (true && true)) = true; rw [hone]; rfl, fun w4 u4 => ?_⟩
    exact ⟨_, u4.blk.all, rfl, fin _ _ w3 sv t3 hq hone w4 _ u4⟩

end

end Go.Proofs.YtlfolinjajjgjaaDoor
