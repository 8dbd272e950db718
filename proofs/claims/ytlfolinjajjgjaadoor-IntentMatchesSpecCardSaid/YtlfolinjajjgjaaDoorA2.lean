/- The specification of the slots: Closed, Stamped. -/
import Derived.Test.YtlfolinjajjgjaaDoorA1
namespace Go.Proofs.YtlfolinjajjgjaaDoor
open Go.E

section
variable {w : World}

def keepF (S : List Sl) (owner : Int) : List Sl := S.filter fun s => !decide ((s.owner : Int) = owner)
def ownsF (S : List Sl) (owner : Int) : Bool := S.any fun s => decide ((s.owner : Int) = owner)
def refClosed (S : List Sl) (owner : Int) : Int × List Sl := if ownsF S owner then (0, keepF S owner) else (5, [])
def stampS (owner : Int) (st : Nat) (s : Sl) : Sl := if (s.owner : Int) = owner then { s with stamp := st } else s
def refStamped (S : List Sl) (owner stamp : Int) : Int × List Sl :=
  if stamp < 1 ∨ 1073741824 < stamp then (1, []) else if ownsF S owner then (0, S.map (stampS owner stamp.toNat)) else (5, [])

def keepZ (owner : Int) (z : Sl × Value) : Bool := !decide ((z.1.owner : Int) = owner)

theorem take_snoc {α : Type} {l : List α} {k : Nat} {x : α} (h : l[k]? = some x) : l.take (k + 1) = l.take k ++ [x] := by
  have hk := (List.getElem?_eq_some_iff.1 h).1
  rw [List.take_succ_eq_append_getElem hk, (List.getElem?_eq_some_iff.1 h).2]

set_option maxHeartbeats 1000000 in
theorem Closed_calls {Z : List (Sl × Value)} {s : Value} {D : Nat → Prop} (hs : SlD w s Z D) (hD : ∀ b, D b → b < w.heap.size) (owner : Int) :
    Calls cx.P 31 #[s, .int .i64 owner] w (Ret fun v w' => Tr [] w w' ∧ SlotsQ w w' D v (refClosed (Z.map (·.1)) owner).1 (refClosed (Z.map (·.1)) owner).2) := by
  have hs0 := hs
  obtain ⟨hn, ⟨a, c, rfl, _, hsl⟩, hblk⟩ := hs
  refine calls_body cx_ok (args := [.slice a Z.length c, .int .i64 owner]) Tryd.func31 rfl 34 rfl rfl [.cell 4 34] rfl ?_
  intro b4 w1 n1
  have e1 := n1.num; have z1 := n1.size
  have B4 : Blk w1 b4 [.slice none 0 0, .int .i64 0] 34 := n1.blk
  have hown := Owns_calls (Z.map (·.1)) _ (hs0.ext n1.tr).slr owner
  refine call hown ?_
  rintro _ _ ⟨rfl, rfl⟩
  unfold refClosed ownsF
  cases hany : (Z.map (·.1)).any (fun s => decide ((s.owner : Int) = owner)) with
  | false =>
    refine ⟨_, rfl, _, _, B4, rfl, by show 0 + 2 ≤ 2; decide, rfl, fun w2 u2 => ?_⟩
    exact ⟨_, u2.blk.all, rfl, u2.ext n1.tr (by omega), SlotsQ.err (by decide) _⟩
  | true =>
    have hOut0 : Out w1 D w1.heap.size (.slice none 0 0) (([] : List (Sl × Value)).filter (keepZ owner)) := Out.nil fun b hb => by have := hD b hb; omega
    refine loop_rule cx_ok (α := Nat × Value) (fun (⟨k, ov⟩ : Nat × Value) W => k ≤ Z.length ∧ Tr [] w1 W ∧ Out W D w1.heap.size ov ((Z.take k).filter (keepZ owner)))
      (fun (⟨k, ov⟩ : Nat × Value) => [(0, .slice a Z.length c), (1, .int .i64 owner), (4, .pointer (some ⟨b4, 0, none⟩)), (5, ov), (6, .int .i64 k)]) (fun x => Z.length - x.1) (0, .slice none 0 0) ⟨rfl, rfl, rfl, rfl, rfl, trivial⟩ ⟨by omega, Tr.refl _ _, hOut0⟩ ?_
    rintro ⟨k, ov⟩ W ⟨hk, hW, hO⟩
    have hZl : ((Z.take k).filter (keepZ owner)).length ≤ 1048576 := by
      have := List.length_filter_le (keepZ owner) (Z.take k)
      rw [List.length_take] at this
      omega
    refine ⟨fun hlt => ?_, fun hge => ?_⟩
    · have hkx : k < Z.length := by omega
      obtain ⟨g, o, rfl, hg, hc⟩ := hsl.resolve_left (fun hh => by have := hh.2; omega)
      obtain ⟨z, hz⟩ : ∃ z, Z[k]? = some z := ⟨_, List.getElem?_eq_getElem hkx⟩
      have hcz : Cells W g (o + k * 4) (zcells z) := (zcells_at hz hc).ext (n1.tr.ext hW)
      have c1 : W.cell? ⟨g, o + k * 4 + 1, none⟩ = some (.int .i64 (z.1.owner : Nat)) := hcz 1 _ rfl
      have htk := take_snoc hz
      have hw : IntKind.i64.wrap ((k : Int) + 1) = ((k + 1 : Nat) : Int) := by rw [w64 (by omega)]; omega
      refine ⟨k, rfl, hkx, _, c1, fun he => ?_, fun hne => ?_⟩
      · have he' : keepZ owner z = false := by unfold keepZ; rw [decide_eq_true he]; rfl
        refine ⟨_, hw, rfl, (k + 1, ov), ⟨rfl, rfl, rfl, rfl, rfl, trivial⟩, ⟨hkx, hW, ?_⟩, by show Z.length - (k + 1) < Z.length - k; omega⟩
        rw [htk, List.filter_append, List.filter_cons_of_neg (by simp [he'])]
        simpa using hO
      · have hne' : keepZ owner z = true := by unfold keepZ; rw [decide_eq_false hne]; rfl
        refine ⟨k, rfl, hkx, zcells z, hcz, rfl, _, rfl, fun b2 W2 n2 => ?_⟩
        have hcz2 : Cells W2 b2 0 (zcells z) := n2.blk.all
        have hbz := hblk z (List.mem_of_getElem? hz)
        refine (hO.ext n2.tr).append hZl (z := z) ⟨hbz.1, hbz.2.ext ((n1.tr.ext hW).ext n2.tr)⟩ b2 0 1 _ hcz2 fun v' W3 hO3 ht3 => ?_
        refine ⟨_, hw, rfl, (k + 1, v'), ⟨rfl, rfl, rfl, rfl, rfl, trivial⟩, ⟨hkx, ht3 w1 (Nat.le_refl _) (hW.ext n2.tr), ?_⟩, by show Z.length - (k + 1) < Z.length - k; omega⟩
        rw [htk, List.filter_append, List.filter_cons_of_pos hne']
        exact hO3
    · have hkx : k = Z.length := by omega
      rw [hkx, List.take_length] at hO
      have hone := Row.one hO.row
      have hfl := List.length_filter_le (keepZ owner) Z
      obtain ⟨ao, co, rfl⟩ := Row.slice hO.row
      refine ⟨_, rfl, _, _, B4.ext hW, rfl, by show 0 + 2 ≤ 2; decide, rfl, fun w2 u2 => ?_⟩
      have z2 := u2.size; have zW := hW.size
      refine ⟨_, u2.blk.all, rfl, u2.ext (n1.tr.ext hW) (by omega), _, rfl, fun _ => ?_, hone⟩
      have hO2 := (hO.tr u2.tr (fun b hb => by simp at hb; subst hb; exact ⟨fun hd => by have := hD _ hd; omega, by omega⟩)).fin (by omega)
      refine ⟨_, ?_, hO2.mono fun b hb => hb.imp_right fun h => ⟨by omega, h.2⟩⟩
      show (Z.filter (keepZ owner)).map (·.1) = keepF (Z.map (·.1)) owner
      unfold keepF
      rw [List.filter_map]
      rfl

theorem zc_len (Z : List (Sl × Value)) : (Z.flatMap zcells).length = Z.length * 4 := fm_len fun _ _ => rfl

theorem zc_set {Z : List (Sl × Value)} {i j : Nat} {z z' : Sl × Value} {v : Value} (hz : Z[i]? = some z) (hj : j < 4) (hs : zcells z' = (zcells z).set j v) : (Z.flatMap zcells).set (i * 4 + j) v = (Z.set i z').flatMap zcells := by
  have hlt := (List.getElem?_eq_some_iff.1 hz).1
  rw [← splice_one (by rw [zc_len]; omega)]
  refine fm_splice (k := 4) (n := 1) (vs := [v]) splice (by funext l o n vs; rfl) (fun _ _ => rfl) hz (by omega) ?_
  rw [hs, ← splice_one (by show j < 4; exact hj)]

set_option maxHeartbeats 1000000 in
theorem Stamped_calls {Z : List (Sl × Value)} {s : Value} {D : Nat → Prop} (hs : SlD w s Z D) (hD : ∀ b, D b → b < w.heap.size) (owner stamp : Int) :
    Calls cx.P 32 #[s, .int .i64 owner, .int .i64 stamp] w (Ret fun v w' => Tr [] w w' ∧ SlotsQ w w' D v (refStamped (Z.map (·.1)) owner stamp).1 (refStamped (Z.map (·.1)) owner stamp).2) := by
  have hs0 := hs
  obtain ⟨hn, ⟨a, c, rfl, _, hsl⟩, hblk⟩ := hs
  refine calls_body cx_ok (args := [.slice a Z.length c, .int .i64 owner, .int .i64 stamp]) Tryd.func32 rfl 44 rfl rfl [.cell 6 34] rfl ?_
  intro b6 w1 n1
  have e1 := n1.num; have z1 := n1.size
  have B6 : Blk w1 b6 [.slice none 0 0, .int .i64 0] 34 := n1.blk
  have bad : (stamp < 1 ∨ 1073741824 < stamp) → ∀ w2, Upd w1 b6 (.cells (splice [.slice none 0 0, .int .i64 0] 0 2 [.slice none 0 0, .int .i64 1]).toArray 34) w2 → Tr [] w w2 ∧ SlotsQ w w2 D (.agg #[.slice none 0 0, .int .i64 1]) (refStamped (Z.map (·.1)) owner stamp).1 (refStamped (Z.map (·.1)) owner stamp).2 := fun hb w2 u2 => by
    unfold refStamped
    rw [if_pos hb]
    exact ⟨u2.ext n1.tr (by omega), SlotsQ.err (by decide) _⟩
  refine ⟨fun h1 => ?_, fun h1 => ⟨fun h2 => ?_, fun h2 => ?_⟩⟩
  · refine ⟨_, rfl, _, _, B6, rfl, by show 0 + 2 ≤ 2; decide, rfl, fun w2 u2 => ?_⟩
    exact ⟨_, u2.blk.all, rfl, bad (.inl h1) w2 u2⟩
  · refine ⟨_, rfl, _, _, B6, rfl, by show 0 + 2 ≤ 2; decide, rfl, fun w2 u2 => ?_⟩
    exact ⟨_, u2.blk.all, rfl, bad (.inr h2) w2 u2⟩
  have hown := Owns_calls (Z.map (·.1)) _ (hs0.ext n1.tr).slr owner
  refine call hown ?_
  rintro _ _ ⟨rfl, rfl⟩
  unfold refStamped ownsF
  rw [if_neg (by omega)]
  cases hany : (Z.map (·.1)).any (fun s => decide ((s.owner : Int) = owner)) with
  | false =>
    refine ⟨_, rfl, _, _, B6, rfl, by show 0 + 2 ≤ 2; decide, rfl, fun w2 u2 => ?_⟩
    exact ⟨_, u2.blk.all, rfl, u2.ext n1.tr (by omega), SlotsQ.err (by decide) _⟩
  | true =>
    refine ⟨[], rfl, fun b2 w2 n2 => ?_⟩
    refine Out.copy n2 (fun b hb => by have := hD b hb; omega) (hs0.ext n1.tr) _ fun ov w3 hO3 t3 => ?_
    obtain ⟨st, rfl⟩ := Int.eq_ofNat_of_zero_le (show 0 ≤ stamp by omega)
    obtain ⟨f, hf⟩ : ∃ f : Sl × Value → Sl × Value, f = fun z => (stampS owner st z.1, z.2) := ⟨_, rfl⟩
    obtain ⟨G, hG⟩ : ∃ G : Nat → List (Sl × Value), G = fun k => (Z.take k).map f ++ Z.drop k := ⟨_, rfl⟩
    have hGl : ∀ k, (G k).length = Z.length := fun k => by rw [hG]; simp; omega
    have hO0 : Out w3 D w1.heap.size ov (G 0) := by rw [hG]; simpa using hO3
    refine loop_rule cx_ok (α := Nat) (fun k W => k ≤ Z.length ∧ Tr [] w1 W ∧ Out W D w1.heap.size ov (G k))
      (fun k => [(1, .int .i64 owner), (2, .int .i64 (st : Nat)), (6, .pointer (some ⟨b6, 0, none⟩)), (7, ov), (8, .int .i64 k)]) (fun x => Z.length - x) 0 ⟨rfl, rfl, rfl, rfl, rfl, trivial⟩ ⟨by omega, t3, hO0⟩ ?_
    rintro k W ⟨hk, hW, hO⟩
    have hrow := hO.row
    rcases Row.elem hrow with ⟨rfl, h0⟩ | ⟨g, cap, rfl, hcap, _, hc⟩
    · rw [hGl] at h0
      refine ⟨fun hlt => absurd hlt (by show ¬ ((k : Int) < (0 : Int)); omega), fun hge => ?_⟩
      refine ⟨_, rfl, _, _, B6.ext hW, rfl, by show 0 + 2 ≤ 2; decide, rfl, fun w4 u4 => ?_⟩
      have z4 := u4.size; have zW := hW.size
      refine ⟨_, u4.blk.all, rfl, u4.ext (n1.tr.ext hW) (by omega), _, rfl, fun _ => ?_, rfl⟩
      have : Z = [] := List.eq_nil_of_length_eq_zero h0
      subst this
      exact ⟨[], rfl, SlD.nil _ _⟩
    rw [hGl]
    rw [hGl] at hO hrow
    have hw : IntKind.i64.wrap ((k : Int) + 1) = ((k + 1 : Nat) : Int) := by rw [w64 (by omega)]; omega
    refine ⟨fun hlt => ?_, fun hge => ?_⟩
    · have hkx : k < Z.length := by omega
      obtain ⟨z, hz⟩ : ∃ z, Z[k]? = some z := ⟨_, List.getElem?_eq_getElem hkx⟩
      have hGz : (G k)[k]? = some z := by
        rw [hG]
        simp only
        rw [List.getElem?_append_right (by simp [Nat.le_of_lt hkx])]
        simp [Nat.le_of_lt hkx, hz]
      have hGs : G (k + 1) = (G k).set k (f z) := by
        rw [hG]
        simp only
        rw [take_snoc hz, List.map_append, List.set_append, if_neg (by simp; omega), List.length_map, List.length_take, Nat.min_eq_left hk, Nat.sub_self, List.drop_eq_getElem_cons hkx, List.set_cons_zero]
        simp
      have hcz : Cells W g (0 + k * 4) (zcells z) := zcells_at hGz hc
      have c1 : W.cell? ⟨g, 0 + k * 4 + 1, none⟩ = some (.int .i64 (z.1.owner : Nat)) := hcz 1 _ rfl
      refine ⟨k, rfl, hkx, _, c1, fun he => ?_, fun hne => ?_⟩
      · have hfz : f z = ({ z.1 with stamp := st }, z.2) := by rw [hf]; simp only [stampS]; rw [if_pos he]
        refine ⟨k, rfl, hkx, ?_⟩
        refine Row.store1 hrow rfl (by rw [zc_len, hGl]; show 0 + k * 4 + 2 < _; omega) rfl fun W4 t4 hr4 => ?_
        rw [show 0 + k * 4 + 2 = k * 4 + 2 by omega, zc_set (z' := f z) hGz (by decide) (by rw [hfz]; rfl), ← hGs] at hr4
        have hg := hO.own g rfl
        refine ⟨_, hw, rfl, k + 1, ⟨rfl, rfl, rfl, rfl, rfl, trivial⟩, ⟨hkx, hW.trans t4 (fun _ h => h) (fun b hb hlt => by simp at hb; omega), ?_⟩, by show Z.length - (k + 1) < Z.length - k; omega⟩
        refine hO.own_tr t4 hg (by rw [hGl]; exact hr4) hO.own fun y hy => ?_
        rw [hGs] at hy
        rcases List.mem_or_eq_of_mem_set hy with hy | rfl
        · exact hO.sli y hy
        · rw [hfz]; exact hO.sli z (List.mem_of_getElem? hGz)
      · have hfz : f z = z := by rw [hf]; simp only [stampS]; rw [if_neg hne]
        have : G (k + 1) = G k := by rw [hGs, hfz, ← (List.getElem?_eq_some_iff.1 hGz).2]; exact List.set_getElem_self _
        exact ⟨_, hw, rfl, k + 1, ⟨rfl, rfl, rfl, rfl, rfl, trivial⟩, ⟨hkx, hW, by rw [this]; exact hO⟩, by show Z.length - (k + 1) < Z.length - k; omega⟩
    · have hkx : k = Z.length := by omega
      refine ⟨_, rfl, _, _, B6.ext hW, rfl, by show 0 + 2 ≤ 2; decide, rfl, fun w4 u4 => ?_⟩
      have z4 := u4.size; have zW := hW.size
      refine ⟨_, u4.blk.all, rfl, u4.ext (n1.tr.ext hW) (by omega), _, rfl, fun _ => ?_, rfl⟩
      have hO2 := (hO.tr u4.tr (fun b hb => by simp at hb; subst hb; exact ⟨fun hd => by have := hD _ hd; omega, by omega⟩)).fin (by rw [hGl]; exact hn)
      refine ⟨G k, ?_, ?_⟩
      · rw [hkx, hG]
        simp [hf]
      · exact hO2.mono fun b hb => hb.imp_right fun h => ⟨by omega, h.2⟩

end

end Go.Proofs.YtlfolinjajjgjaaDoor
