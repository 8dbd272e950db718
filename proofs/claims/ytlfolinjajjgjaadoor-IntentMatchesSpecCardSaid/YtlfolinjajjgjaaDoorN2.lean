/- Lost, Blocks; do; Crash(nil). -/
import Derived.Test.YtlfolinjajjgjaaDoorN1
namespace Go.Proofs.YtlfolinjajjgjaaDoor
open Go.E

theorem append_none {t e ty : Nat} {x y : TI} (ht : tget cx.tb t = some x) (hx : x.kd = .slice e) (he : tget cx.tb e = some y) {w : World} {v : Value} {n : Nat} {xs : List Value} (h : Row w e y.size v n xs) (c : Nat) {K : Value → World → Prop} (hK : K v w) :
    RunV cx.P (Builtin.append_ #[t, t] ty #[v, .slice none 0 c]) w K := by
  refine ⟨v, w, ?_, hK⟩
  have hu := run_under_slice cx_ok ht hx w
  have hsz := run_sizeOf cx_ok he w
  rcases Row.elem h with ⟨rfl, rfl⟩ | ⟨g, cap, rfl, hn, _, _⟩
  · simp [Builtin.append_, hu, hsz, Builtin.lenOf, Builtin.firstCells]
  · simp [Builtin.append_, hu, hsz, Builtin.lenOf, Builtin.firstCells, hn, storeCells]

/-- append of a list of numbers that is to be read alone. -/
theorem append_sli {ty : Nat} {w : World} {v bv : Value} {xs ys : List Nat} (h : Row w 3 1 v xs.length (icells xs)) (hb : Sli w bv ys.length (icells ys)) (hlen : xs.length + ys.length ≤ 1099511627776) {K : Value → World → Prop}
    (hK : ∀ v' w', Row w' 3 1 v' (xs ++ ys).length (icells (xs ++ ys)) → Tr v.ownBlock.toList w w' → (v'.ownBlock = v.ownBlock ∨ v'.ownBlock = some w.heap.size) → K v' w') : RunV cx.P (Builtin.append_ #[52, 52] ty #[v, bv]) w K := by
  obtain ⟨a, c, rfl, _, ⟨rfl, h0⟩ | ⟨g, o, rfl, hc⟩⟩ := hb
  · have : ys = [] := List.eq_nil_of_length_eq_zero h0
    subst this
    refine append_none (x := ⟨1, 24, false, [.slice none 0 0], .slice 3⟩) (y := ⟨1, 8, false, [.int .i64 0], .int .i64⟩) rfl rfl rfl h c ?_
    exact hK v w (by simpa using h) (Tr.refl _ _) (.inl rfl)
  · refine append_own cx_ok (x := ⟨1, 24, false, [.slice none 0 0], .slice 3⟩) (y := ⟨1, 8, false, [.int .i64 0], .int .i64⟩) rfl rfl rfl (by decide) h g o ys.length c (icells ys) (by rw [icells_len]; show _ = _ * 1; omega) hc (icells_one _) hlen (by decide) ?_
    intro v' w' hr t hat _
    refine hK v' w' ?_ t hat
    rw [List.length_append]
    have : icells (xs ++ ys) = icells xs ++ icells ys := by simp [icells]
    rw [this]
    exact hr

def lostF (S : List Sl) (last : Int) : List Nat := S.flatMap fun s => if s.stamp = 0 ∨ last < (s.stamp : Int) then s.blocks else []
def blocksF (S : List Sl) (owner : Int) : List Nat := S.flatMap fun s => if (s.owner : Int) = owner then s.blocks else []

theorem fm_take {S : List Sl} {f : Sl → List Nat} {j : Nat} {s : Sl} (hs : S[j]? = some s) : (S.take (j + 1)).flatMap f = (S.take j).flatMap f ++ f s := by
  have hj := (List.getElem?_eq_some_iff.1 hs).1
  rw [List.take_succ_eq_append_getElem hj, List.flatMap_append]
  simp [(List.getElem?_eq_some_iff.1 hs).2]

theorem fm_bound {S : List Sl} {f : Sl → List Nat} (hf : ∀ s ∈ S, (f s).length ≤ 1048576) : (S.flatMap f).length ≤ S.length * 1048576 := by
  induction S with
  | nil => simp
  | cons s r ih =>
    have h1 := hf s (by simp)
    have h2 := ih fun x hx => hf x (by simp [hx])
    rw [List.flatMap_cons, List.length_append, List.length_cons, Nat.add_mul]
    omega

section
variable {w : World}

set_option maxHeartbeats 1000000 in
theorem Lost_calls (S : List Sl) (s : Value) (hs : SlR w s S) (last : Int) :
    Calls cx.P 18 #[s, .int .i64 last] w (Ret fun v w' => Tr [] w w' ∧ Row w' 3 1 v (lostF S last).length (icells (lostF S last)) ∧ ∀ b, v.ownBlock = some b → w.heap.size ≤ b) := by
  obtain ⟨a, c, rfl, hn, hs⟩ := hs
  refine calls_body cx_ok (args := [.slice a S.length c, .int .i64 last]) Tryd.func18 rfl 29 rfl rfl [.tmp 4] rfl ?_
  refine loop_rule cx_ok (α := Nat × Value) (fun (⟨j, ov⟩ : Nat × Value) W => j ≤ S.length ∧ Tr [] w W ∧ Row W 3 1 ov (lostF (S.take j) last).length (icells (lostF (S.take j) last)) ∧ ∀ b, ov.ownBlock = some b → w.heap.size ≤ b)
    (fun (⟨j, ov⟩ : Nat × Value) => [(1, .int .i64 last), (5, ov), (8, .slice a S.length c), (9, .int .i64 S.length), (10, .int .i64 j)]) (fun p => S.length - p.1) (0, .slice none 0 0) ⟨rfl, rfl, rfl, rfl, rfl, trivial⟩ ⟨by omega, Tr.refl _ _, World.ownsRow_nil _ _ _ _, fun b hb => by simp [Value.ownBlock] at hb⟩ ?_
  rintro ⟨j, ov⟩ W ⟨hj, tW, hov, hfr⟩
  refine ⟨fun hlt => ?_, fun hge => ?_⟩
  · have hjl : j < S.length := by omega
    obtain ⟨g, o, rfl, hc⟩ := hs.resolve_left (fun hh => by have := hh.2; omega)
    have hsj : S[j]? = some S[j] := List.getElem?_eq_getElem hjl
    obtain ⟨x, hx⟩ : ∃ x, x = S[j] := ⟨_, rfl⟩
    rw [← hx] at hsj
    obtain ⟨hb, bv, h1, h2⟩ := hc j x hsj
    refine ⟨j, rfl, hjl, zcells (x, bv), h1.ext tW, rfl, ?_⟩
    intro b7 W1 n7
    have e7 := n7.num; have z7 := n7.size; have zW := tW.size
    obtain ⟨ab, cb, hbv⟩ := Sli.slice h2
    refine ⟨_, _, n7.blk, rfl, by show 0 + 4 ≤ 4; decide, by rw [hbv]; rfl, fun W2 u2 => ?_⟩
    have B7 : Blk W2 b7 (zcells (x, bv)) 54 := Upd.whole u2 rfl rfl
    have t2 : Tr [] W W2 := u2.ext n7.tr (by omega)
    have hf := fm_take (f := fun s => if s.stamp = 0 ∨ last < (s.stamp : Int) then s.blocks else []) hsj
    have hw : IntKind.i64.wrap ((j : Int) + 1) = ((j + 1 : Nat) : Int) := by rw [w64 (by omega)]; omega
    have hbd : (lostF (S.take j) last).length ≤ j * 1048576 := by
      have := fm_bound (S := S.take j) (f := fun s => if s.stamp = 0 ∨ last < (s.stamp : Int) then s.blocks else []) (fun s hs => by
        obtain ⟨i, hi⟩ := List.mem_iff_getElem?.1 (List.mem_of_mem_take hs)
        have := (hc i s hi).1
        split
        · exact this
        · simp)
      rw [List.length_take, Nat.min_eq_left hj] at this
      exact this
    -- with the blocks
    have yes : (x.stamp = 0 ∨ last < (x.stamp : Int)) → ∀ K : Value → World → Prop, (∀ v' W3, Row W3 3 1 v' (lostF (S.take (j + 1)) last).length (icells (lostF (S.take (j + 1)) last)) → Tr [] w W3 → (∀ b, v'.ownBlock = some b → w.heap.size ≤ b) → K v' W3) →
        RunV cx.P (Builtin.append_ #[52, 52] 52 #[ov, bv]) W2 K := by
      intro hyes K hK
      refine append_sli (Row.tr hov t2 (by simp)) (h2.ext (tW.ext t2)) (by have := Nat.mul_le_mul_right 1048576 (show j + 1 ≤ 1048576 by omega); omega) fun v' W3 hr t3 hat => ?_
      refine hK v' W3 ?_ ((tW.ext t2).trans t3 (fun _ h => h) fun b hb hlt => ?_) fun b hb => ?_
      · have : lostF (S.take (j + 1)) last = lostF (S.take j) last ++ x.blocks := by
          unfold lostF
          rw [hf, if_pos hyes]
        rw [this]; exact hr
      · have := hfr b (by simpa using hb); omega
      · rcases hat with e | e
        · exact hfr b (e ▸ hb)
        · rw [e] at hb; have := Option.some.inj hb; have := t2.size; omega
    have p7 : W2.cell? ⟨b7, 0 + 3, none⟩ = some bv := B7.cell rfl
    refine ⟨_, B7.cell rfl, fun h0 => ?_, fun h0 => ⟨_, B7.cell rfl, fun hl => ?_, fun hl => ?_⟩⟩
    · refine ⟨_, p7, ?_⟩
      refine yes (.inl (by have : ((x.stamp : Nat) : Int) = 0 := h0; omega)) _ fun v' W3 hr t3 hf' => ?_
      exact ⟨_, hw, rfl, (j + 1, v'), ⟨rfl, rfl, rfl, rfl, rfl, trivial⟩, ⟨hjl, t3, hr, hf'⟩, by show S.length - (j + 1) < S.length - j; omega⟩
    · refine ⟨_, p7, ?_⟩
      refine yes (.inr hl) _ fun v' W3 hr t3 hf' => ?_
      exact ⟨_, hw, rfl, (j + 1, v'), ⟨rfl, rfl, rfl, rfl, rfl, trivial⟩, ⟨hjl, t3, hr, hf'⟩, by show S.length - (j + 1) < S.length - j; omega⟩
    · have : lostF (S.take (j + 1)) last = lostF (S.take j) last := by
        unfold lostF
        rw [hf, if_neg (by have : ¬ ((x.stamp : Nat) : Int) = 0 := h0; have : ¬ last < ((x.stamp : Nat) : Int) := hl; omega), List.append_nil]
      exact ⟨_, hw, rfl, (j + 1, ov), ⟨rfl, rfl, rfl, rfl, rfl, trivial⟩, ⟨hjl, tW.ext t2, by rw [this]; exact Row.tr hov t2 (by simp), hfr⟩, by show S.length - (j + 1) < S.length - j; omega⟩
  · have hjl : j = S.length := by omega
    rw [hjl, List.take_length] at hov
    exact ⟨tW, hov, hfr⟩

set_option maxHeartbeats 1000000 in
theorem Blocks_calls (S : List Sl) (s : Value) (hs : SlR w s S) (owner : Int) :
    Calls cx.P 29 #[s, .int .i64 owner] w (Ret fun v w' => Tr [] w w' ∧ Row w' 3 1 v (blocksF S owner).length (icells (blocksF S owner)) ∧ ∀ b, v.ownBlock = some b → w.heap.size ≤ b) := by
  obtain ⟨a, c, rfl, hn, hs⟩ := hs
  refine calls_body cx_ok (args := [.slice a S.length c, .int .i64 owner]) Tryd.func29 rfl 24 rfl rfl [.tmp 4] rfl ?_
  refine loop_rule cx_ok (α := Nat × Value) (fun (⟨j, ov⟩ : Nat × Value) W => j ≤ S.length ∧ Tr [] w W ∧ Row W 3 1 ov (blocksF (S.take j) owner).length (icells (blocksF (S.take j) owner)) ∧ ∀ b, ov.ownBlock = some b → w.heap.size ≤ b)
    (fun (⟨j, ov⟩ : Nat × Value) => [(1, .int .i64 owner), (5, ov), (8, .slice a S.length c), (9, .int .i64 S.length), (10, .int .i64 j)]) (fun p => S.length - p.1) (0, .slice none 0 0) ⟨rfl, rfl, rfl, rfl, rfl, trivial⟩ ⟨by omega, Tr.refl _ _, World.ownsRow_nil _ _ _ _, fun b hb => by simp [Value.ownBlock] at hb⟩ ?_
  rintro ⟨j, ov⟩ W ⟨hj, tW, hov, hfr⟩
  refine ⟨fun hlt => ?_, fun hge => ?_⟩
  · have hjl : j < S.length := by omega
    obtain ⟨g, o, rfl, hc⟩ := hs.resolve_left (fun hh => by have := hh.2; omega)
    have hsj : S[j]? = some S[j] := List.getElem?_eq_getElem hjl
    obtain ⟨x, hx⟩ : ∃ x, x = S[j] := ⟨_, rfl⟩
    rw [← hx] at hsj
    obtain ⟨hb, bv, h1, h2⟩ := hc j x hsj
    refine ⟨j, rfl, hjl, zcells (x, bv), h1.ext tW, rfl, ?_⟩
    intro b7 W1 n7
    have e7 := n7.num; have z7 := n7.size; have zW := tW.size
    obtain ⟨ab, cb, hbv⟩ := Sli.slice h2
    refine ⟨_, _, n7.blk, rfl, by show 0 + 4 ≤ 4; decide, by rw [hbv]; rfl, fun W2 u2 => ?_⟩
    have B7 : Blk W2 b7 (zcells (x, bv)) 54 := Upd.whole u2 rfl rfl
    have t2 : Tr [] W W2 := u2.ext n7.tr (by omega)
    have hf := fm_take (f := fun s => if (s.owner : Int) = owner then s.blocks else []) hsj
    have hw : IntKind.i64.wrap ((j : Int) + 1) = ((j + 1 : Nat) : Int) := by rw [w64 (by omega)]; omega
    have hbd : (blocksF (S.take j) owner).length ≤ j * 1048576 := by
      have := fm_bound (S := S.take j) (f := fun s => if (s.owner : Int) = owner then s.blocks else []) (fun s hs => by
        obtain ⟨i, hi⟩ := List.mem_iff_getElem?.1 (List.mem_of_mem_take hs)
        have := (hc i s hi).1
        split
        · exact this
        · simp)
      rw [List.length_take, Nat.min_eq_left hj] at this
      exact this
    have p7 : W2.cell? ⟨b7, 0 + 3, none⟩ = some bv := B7.cell rfl
    refine ⟨_, B7.cell rfl, fun h0 => ?_, fun h0 => ?_⟩
    · refine ⟨_, p7, ?_⟩
      refine append_sli (Row.tr hov t2 (by simp)) (h2.ext (tW.ext t2)) (by have := Nat.mul_le_mul_right 1048576 (show j + 1 ≤ 1048576 by omega); omega) fun v' W3 hr t3 hat => ?_
      have : blocksF (S.take (j + 1)) owner = blocksF (S.take j) owner ++ x.blocks := by
        unfold blocksF
        rw [hf, if_pos h0]
      refine ⟨_, hw, rfl, (j + 1, v'), ⟨rfl, rfl, rfl, rfl, rfl, trivial⟩, ⟨hjl, (tW.ext t2).trans t3 (fun _ h => h) fun b hb hlt => ?_, by rw [this]; exact hr, fun b hb => ?_⟩, by show S.length - (j + 1) < S.length - j; omega⟩
      · have := hfr b (by simpa using hb); omega
      · rcases hat with e | e
        · exact hfr b (e ▸ hb)
        · rw [e] at hb; have := Option.some.inj hb; have := t2.size; omega
    · have : blocksF (S.take (j + 1)) owner = blocksF (S.take j) owner := by
        unfold blocksF
        rw [hf, if_neg h0, List.append_nil]
      exact ⟨_, hw, rfl, (j + 1, ov), ⟨rfl, rfl, rfl, rfl, rfl, trivial⟩, ⟨hjl, tW.ext t2, by rw [this]; exact Row.tr hov t2 (by simp), hfr⟩, by show S.length - (j + 1) < S.length - j; omega⟩
  · have hjl : j = S.length := by omega
    rw [hjl, List.take_length] at hov
    exact ⟨tW, hov, hfr⟩

/-! do -/

def doF (from_ n : Nat) (LS : List (List Nat)) (kind owner x : Int) : Int × List (List Nat) :=
  if kind = 0 then closeF from_ n LS owner else if kind = 1 then stampF from_ n LS owner x else addF from_ n LS owner x

theorem do_calls {p nev : Nat} {LS : List (List Nat)} {F : List Nat} (h : QMem w p LS nev F) (hg : Gl w) {lc : List Value} {from_ n : Nat} (hl : LayC lc from_ n) (hfit : from_ + n ≤ LS.length) (kind owner x : Int) (hnev : nev ≤ 274877906944) :
    Calls cx.P 10 #[.pointer (some ⟨p, 0, none⟩), .agg lc.toArray, .agg #[.int .i64 kind, .int .i64 owner, .int .i64 x]] w
      (Ret fun v w' => v = .int .i64 (doF from_ n LS kind owner x).1 ∧ ∃ F' nev', QMem w' p (doF from_ n LS kind owner x).2 nev' F' ∧ Step w w' F F' ∧ nev' ≤ nev + n * 18 + 20) := by
  refine calls_body cx_ok (args := [.pointer (some ⟨p, 0, none⟩), .agg lc.toArray, .agg #[.int .i64 kind, .int .i64 owner, .int .i64 x]]) Tryd.func10 rfl 32 rfl rfl [.tmp 6] rfl ?_
  intro b4 w1 n1 b5 w2 n2
  have t2 : Tr [] w w2 := n1.tr.ext n2.tr
  have B4 : Blk w2 b4 lc 27 := (show Blk w1 b4 lc _ from n1.blk).ext n2.tr
  have B5 : Blk w2 b5 [.int .i64 kind, .int .i64 owner, .int .i64 x] 31 := n2.blk
  refine ⟨_, B5.cell rfl, fun h0 => ?_, fun h0 => ⟨fun h1 => ?_, fun h1 => ?_⟩⟩
  · have hd : doF from_ n LS kind owner x = closeF from_ n LS owner := by unfold doF; rw [if_pos h0]
    rw [hd]
    refine ⟨lc, B4.all, hl.len, _, B5.cell rfl, ?_⟩
    refine call (Close_calls (h.ext t2) (hg.ext t2) hl hfit owner hnev) ?_
    rintro _ w3 ⟨rfl, F', nev', hQ, hs, hn⟩
    exact ⟨rfl, F', nev', hQ, Step.of_ext t2 hs, by omega⟩
  · have hd : doF from_ n LS kind owner x = stampF from_ n LS owner x := by unfold doF; rw [if_neg h0, if_pos h1]
    rw [hd]
    refine ⟨lc, B4.all, hl.len, _, B5.cell rfl, _, B5.cell rfl, ?_⟩
    refine call (Stamp_calls (h.ext t2) (hg.ext t2) hl hfit owner x hnev) ?_
    rintro _ w3 ⟨rfl, F', nev', hQ, hs, hn⟩
    exact ⟨rfl, F', nev', hQ, Step.of_ext t2 hs, by omega⟩
  · have hd : doF from_ n LS kind owner x = addF from_ n LS owner x := by unfold doF; rw [if_neg h0, if_neg h1]
    rw [hd]
    refine ⟨lc, B4.all, hl.len, _, B5.cell rfl, _, B5.cell rfl, ?_⟩
    refine call (Add_calls (h.ext t2) (hg.ext t2) hl hfit owner x hnev) ?_
    rintro _ w3 ⟨rfl, F', nev', hQ, hs, hn⟩
    exact ⟨rfl, F', nev', hQ, Step.of_ext t2 hs, by omega⟩

/-! Crash -/

theorem Crash_calls {p nev : Nat} {LS : List (List Nat)} {F : List Nat} (h : QMem w p LS nev F) :
    Calls cx.P 16 #[.pointer (some ⟨p, 0, none⟩), .slice none 0 0] w (Ret fun v w' => v = .int .i64 0 ∧ ∃ F', QMem w' p LS 0 F' ∧ Step w w' F F') := by
  obtain ⟨bl, bm, rows, evv, span, hm, hrows, rfl⟩ := h
  obtain ⟨n1, n2, n3⟩ := hm.ne
  have hnb : ∀ k, busyM rows k = none := busy_none fun r hr => by
    have : r.1 ∈ rows.map (·.1) := List.mem_map.2 ⟨r, hr, rfl⟩
    rw [hrows] at this
    obtain ⟨x, _, hx⟩ := List.mem_map.1 this
    rw [← hx]; rfl
  have hlt := hm.foot_lt
  refine calls_body cx_ok (args := [.pointer (some ⟨p, 0, none⟩), .slice none 0 0]) Tryd.func16 rfl 104 rfl rfl [.tmp 4] rfl ?_
  refine loop_rule cx_ok (fun (_ : Unit) W => w = W) (fun _ => [(0, .pointer (some ⟨p, 0, none⟩)), (1, .slice none 0 0), (11, .int .i64 0), (12, .int .i64 0)]) (fun _ => 0) () ⟨rfl, rfl, rfl, rfl, trivial⟩ rfl ?_
  rintro _ _ rfl
  refine ⟨fun hh => absurd hh (by decide), fun _ => ?_⟩
  refine loop_rule cx_ok (fun (_ : Unit) W => w = W) (fun _ => [(0, .pointer (some ⟨p, 0, none⟩)), (59, .int .i64 0), (60, .int .i64 0)]) (fun _ => 0) () ⟨rfl, rfl, rfl, trivial⟩ rfl ?_
  rintro _ _ rfl
  refine ⟨fun hh => absurd hh (by decide), fun _ => ?_⟩
  refine ⟨_, hm.head.cell rfl, ?_⟩
  refine map_range cx_ok (x := ⟨1, 8, false, [.map none], .map 3 4⟩) rfl rfl hm.busy fun it o w1 cnt m1 hir => ?_
  have e1 := m1.num; have z1 := m1.size
  refine loop_rule cx_ok (fun (_ : Unit) W => w1 = W) (fun _ => [(0, .pointer (some ⟨p, 0, none⟩)), (75, .pointer (some ⟨it, 0, none⟩))]) (fun _ => 0) () ⟨rfl, rfl, trivial⟩ rfl ?_
  rintro _ _ rfl
  refine map_next hir (fun hdone => ?_) (fun k v W1 cnt' hk hmk _ _ _ _ => absurd (hmk.symm.trans (hnb k)) (by simp))
  have hm1 := hm.toMemX.ext m1.tr
  refine ⟨_, hm1.head.cell rfl, ?_⟩
  refine map_clear cx_ok (x := ⟨1, 8, false, [.map none], .map 3 4⟩) rfl rfl rfl (hm.busy.tr m1.tr (by simp)) fun o2 w2 u2 hm2 => ?_
  have z2 := u2.size
  have H2 : Blk w2 p [.slice (some ⟨bl, 0, none⟩) rows.length rows.length, .map (some bm), .int .i64 (span : Nat), evv] 73 := (hm.head.ext m1.tr).tr u2.tr (by simp; exact n2)
  refine ⟨_, _, H2, by show 2 < 4; decide, rfl, fun w3 u3 => ?_⟩
  refine ⟨_, _, u3.blk, by show 3 < 4; decide, rfl, fun w4 u4 => ?_⟩
  have t2 : Tr [bm] w1 w2 := u2.tr
  have t4 : Tr [bm, p] w w4 := ((m1.tr.of_ext (S := [bm, p])).trans u2.tr (fun _ h => h) (fun b hb _ => by simp at hb; simp [hb])).trans (u3.tr.same u4.tr) (fun _ h => h) (fun b hb _ => by simp at hb; simp [hb])
  have hpn := hlt p in_p
  have hbn := hlt bm in_bm
  have hfoot := foot_ev hm.nodup hlt (evv' := .slice none 0 0) (fun b hb => by simp [Value.ownBlock] at hb)
  refine ⟨rfl, foot p bl bm rows (.slice none 0 0), ⟨bl, bm, rows, .slice none 0 0, 0, ⟨⟨u4.blk, ?_, fun r hr => Row.tr (hm.pend r hr) t4 fun b hb hmem => ?_, ⟨[], World.ownsRow_nil _ _ _ _⟩, hm.ok, hfoot.1, fun b hb => ?_, hm.small, Nat.lt_of_lt_of_le hm.bmlt t4.size⟩, ?_⟩, hrows, rfl⟩, ⟨t4.mono fun b hb _ => (show b = bm ∨ b = p by simpa using hb).elim (fun e => e ▸ in_bm) (fun e => e ▸ in_p), hfoot.2⟩⟩
  · exact hm.lines.tr t4 (by simp; exact ⟨n3, fun e => n1 e.symm⟩)
  · obtain ⟨i, hi⟩ := List.mem_iff_getElem?.1 hr
    have := hm.row_ne hi hb
    simp at hmem
    rcases hmem with e | e
    · exact this.2.2.1 e
    · exact this.1 e
  · rcases hfoot.2 b hb with hb | hb
    · exact hm.ge b hb
    · have := hm.ge p in_p
      omega
  · exact ((hm2.tr (u3.tr.same u4.tr) (by simp; exact fun e => n2 e.symm))).congr fun k => (hnb k).symm

end

end Go.Proofs.YtlfolinjajjgjaaDoor
