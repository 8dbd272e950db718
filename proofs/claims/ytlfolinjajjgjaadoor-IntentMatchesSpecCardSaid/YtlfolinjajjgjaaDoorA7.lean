/- IntentMatchesSpec: what the law's function returns. -/
import Derived.Test.YtlfolinjajjgjaaDoorA6
import Derived.Test.YtlfolinjajjgjaaDoorN5
namespace Go.Proofs.YtlfolinjajjgjaaDoor
open Go.E

theorem and3 (a : Int) : ∃ s : Nat, s < 4 ∧ bits .and .i64 a 3 = (s : Int) := by
  have hle : (BitVec.ofInt IntKind.i64.bits a &&& BitVec.ofInt IntKind.i64.bits 3).toNat ≤ 3 := by
    rw [BitVec.toNat_and]
    exact Nat.and_le_right
  refine ⟨(BitVec.ofInt IntKind.i64.bits a &&& BitVec.ofInt IntKind.i64.bits 3).toNat, by omega, ?_⟩
  show IntKind.i64.wrap ((BitVec.ofInt IntKind.i64.bits a &&& BitVec.ofInt IntKind.i64.bits 3).toNat : Int) = _
  exact i64_small (by omega)

theorem runF_len {from_ n : Nat} : ∀ (ops : List (Int × Int × Int)) (LS : List (List Nat)), (runF from_ n LS ops).length = LS.length
  | [], _ => rfl
  | x :: r, LS => by
    show (runF from_ n (doF from_ n LS x.1 x.2.1 x.2.2).2 r).length = _
    rw [runF_len r, do_len]
theorem runF_out {from_ n : Nat} : ∀ (ops : List (Int × Int × Int)) {LS : List (List Nat)}, LI LS from_ n → ∀ i, (i < from_ ∨ from_ + n ≤ i) → (runF from_ n LS ops).getD i [] = LS.getD i []
  | [], _, _, _, _ => rfl
  | x :: r, LS, h, i, hi => by
    show (runF from_ n (doF from_ n LS x.1 x.2.1 x.2.2).2 r).getD i [] = _
    rw [runF_out r (h.do x.1 x.2.1 x.2.2) i hi, do_out h _ _ _ i hi]

structure MS where
  j : Nat
  F : List Nat
  now : Value
  Z : List (Sl × Value)
  D : Nat → Prop

section
variable {w : World}

set_option maxHeartbeats 4000000 in
set_option maxRecDepth 100000 in
theorem IntentMatchesSpec_calls (hg : Gl w) (slots fr : Int) (ops : List (Int × Int × Int)) (s : Value) (hs : OpsR w s ops) :
    Calls cx.P 3 #[.int .i64 slots, .int .i64 fr, s] w (Ret fun v w' => v = .bool true ∧ Tr [] w w') := by
  obtain ⟨ao, co, rfl, hs⟩ := hs
  obtain ⟨sl, hsl, hand⟩ := and7 slots
  obtain ⟨from_, hfr, hand3⟩ := and3 fr
  refine calls_body cx_ok (args := [.int .i64 slots, .int .i64 fr, .slice ao ops.length co]) Tryd.func3 rfl 132 rfl rfl [.tmp 6] rfl ?_
  refine ⟨_, hand, ((1 + sl : Nat) : Int), by rw [w64 (by omega)]; omega, _, hand3, ?_⟩
  obtain ⟨n, hn⟩ : ∃ n, n = 1 + sl := ⟨_, rfl⟩
  rw [← hn]
  refine ⟨((from_ + n : Nat) : Int), by rw [w64 (by omega)]; omega, ((from_ + n + 1 : Nat) : Int), by rw [w64 (by omega)]; omega, ?_⟩
  obtain ⟨tot, htot⟩ : ∃ tot, tot = from_ + n + 1 := ⟨_, rfl⟩
  rw [← htot]
  refine call (New_calls w hg tot (by omega) (by omega)) ?_
  rintro _ w1 ⟨t1, p, F, rfl, hQ, hF⟩
  have hg1 := hg.ext t1
  refine ⟨.bool false, w1, ptr_nil (t := 23) rfl under_mem _ _ _ _, fun h60 => ?_, fun h60 => ?_⟩
  · refine ⟨.bool true, w1, ptr_nil_ne (t := 23) rfl under_mem _ _ _ _, ?_⟩
    refine call (sanity_calls w1 hg1) ?_
    rintro _ w2 ⟨rfl, t2⟩
    exact ⟨rfl, t1.ext t2⟩
  refine ⟨((from_ + n : Nat) : Int), by rw [w64 (by omega)]; omega, ((tot : Nat) : Int), by rw [w64 (by omega)]; omega, ?_⟩
  refine call (area_calls tot from_ n w1) ?_
  rintro _ w2 ⟨rfl, t2⟩
  intro b8 w3 n3
  have e3 := n3.num; have z3 := n3.size
  refine ⟨_, _, n3.blk, rfl, by show 0 + 8 ≤ 8; decide, rfl, fun w4 u4 => ?_⟩
  obtain ⟨lc, hlc⟩ : ∃ lc, lc = layC tot from_ n := ⟨_, rfl⟩
  have B8 : Blk w4 b8 lc 27 := by rw [hlc]; exact Upd.whole u4 rfl rfl
  have z1 := t1.size; have z2 := t2.size
  have t24 : Tr [] w1 w4 := u4.ext (t2.ext n3.tr) (by omega)
  have t4 : Tr [] w w4 := t1.ext t24
  have hl : LayC lc from_ n := by rw [hlc]; exact layC_ok tot from_ n
  obtain ⟨LS0, hLS0⟩ : ∃ LS0, LS0 = List.replicate tot zeros8 := ⟨_, rfl⟩
  rw [← hLS0] at hQ
  have hlen0 : LS0.length = tot := by rw [hLS0]; simp
  have hLI0 : LI LS0 from_ n := by rw [hLS0]; exact LI.start (by omega)
  have S0 : San w w4 p b8 lc LS0 0 F := ⟨⟨0, Nat.le_refl _, hQ.ext t24⟩, t4, fun x hx => ⟨hF x hx, fun e => by have := hQ.lt x hx; omega⟩, B8, hg.ext t4⟩
  have hrl : ∀ j, (runF from_ n LS0 (ops.take j)).length = tot := fun j => by rw [runF_len, hlen0]
  have hslots0 : slotsN LS0 from_ n = [] := by
    rw [slotsN_fm, List.flatMap_eq_nil_iff]
    intro i hi
    have := List.mem_range.1 hi
    have : LS0.getD (from_ + i) [] = zeros8 := by rw [hLS0, List.getD_eq_getElem?_getD, List.getElem?_replicate, if_pos (by omega)]; rfl
    rw [this]
    rfl
  -- the script
  refine loop_rule cx_ok (α := MS) (fun x W => x.j ≤ ops.length ∧ San w W p b8 lc (runF from_ n LS0 (ops.take x.j)) (x.j * 1200) x.F ∧ SlD W x.now x.Z x.D ∧ x.Z.map (·.1) = slotsN (runF from_ n LS0 (ops.take x.j)) from_ n ∧ (∀ b, b ∈ x.F → ¬ x.D b) ∧ (∀ b, x.D b → b < W.heap.size))
    (fun x => [(0, .int .i64 n), (1, .int .i64 from_), (7, .pointer (some ⟨p, 0, none⟩)), (8, .pointer (some ⟨b8, 0, none⟩)), (9, x.now), (46, .slice ao ops.length co), (47, .int .i64 ops.length), (48, .int .i64 x.j)]) (fun x => ops.length - x.j) ⟨0, F, .slice none 0 0, [], fun _ => False⟩
    ⟨rfl, rfl, rfl, rfl, rfl, rfl, rfl, rfl, trivial⟩ ⟨by show 0 ≤ _; omega, S0, SlD.nil _ _, hslots0.symm, fun _ _ h => h, fun _ h => h.elim⟩ ?_
  rintro ⟨j, Fj, now, Z, D⟩ W ⟨hj, hS, hZ, hZS, hFD, hDl⟩
  simp only at hj hS hZ hZS hFD hDl
  have hl60 : ops.length ≤ 60 := by omega
  have hLIj : LI (runF from_ n LS0 (ops.take j)) from_ n := hLI0.run _
  have hfitj := hLIj.fit
  refine ⟨fun hlt => ?_, fun hge => ?_⟩
  · have hjl : j < ops.length := by have : ((j : Nat) : Int) < (ops.length : Int) := hlt; omega
    obtain ⟨g, o, rfl, hc⟩ := hs.resolve_left (fun h0 => by omega)
    have hoj : ops[j]? = some ops[j] := List.getElem?_eq_getElem hjl
    obtain ⟨x, hx⟩ : ∃ x, x = ops[j] := ⟨_, rfl⟩
    rw [← hx] at hoj
    refine ⟨j, rfl, hjl, _, (hc j x hoj).ext hS.tr, rfl, ?_⟩
    intro b11 W1 n11
    have e11 := n11.num; have z11 := n11.size
    refine ⟨_, _, n11.blk, rfl, by show 0 + 3 ≤ 3; decide, rfl, fun W2 u2 => ?_⟩
    have z2' := u2.size
    have B11 : Blk W2 b11 [.int .i64 x.1, .int .i64 x.2.1, .int .i64 x.2.2] 31 := Upd.whole u2 rfl rfl
    have t02 : Tr [] W W2 := u2.ext n11.tr (by omega)
    have hZl : Z.length ≤ n := by
      have : Z.length = (slotsN (runF from_ n LS0 (ops.take j)) from_ n).length := by rw [← hZS]; simp
      rw [this]; exact slotsN_len _ _ _
    have hZb : ∀ z ∈ Z, z.1.blocks.length ≤ 6 := fun z hz => by
      refine slots_small hLIj.len8 hfitj z.1 ?_
      rw [← hZS]
      exact List.mem_map.2 ⟨z, hz, rfl⟩
    refine ⟨_, B11.all, rfl, ?_⟩
    refine call (Do_calls (hZ.ext t02) (by omega) (fun z hz => by have := hZb z hz; omega) (fun b hb => by have := hDl b hb; omega) n (by omega) x.1 x.2.1 x.2.2) ?_
    rintro _ W3 ⟨t3, sv, rfl, hq, hone⟩
    have z3' := t3.size
    rw [hZS] at hq ⊢
    obtain ⟨R, hR⟩ : ∃ R, R = refDo (slotsN (runF from_ n LS0 (ops.take j)) from_ n) n x.1 x.2.1 x.2.2 := ⟨_, rfl⟩
    obtain ⟨hlaw1, hlaw2⟩ := do_law hLIj x.1 x.2.1 x.2.2
    rw [← runF_snoc hoj] at hlaw2
    rw [← hR] at hq hlaw1 hlaw2 ⊢
    intro b12 W4 n12
    have e12 := n12.num; have z12 := n12.size
    refine ⟨_, _, n12.blk, rfl, by show 0 + 2 ≤ 2; decide, by show (E.one sv && (true && true)) = true; rw [hone]; rfl, fun W5 u5 => ?_⟩
    have z5 := u5.size
    have B12 : Blk W5 b12 [sv, .int .i64 R.1] 34 := Upd.whole u5 rfl rfl
    have t35 : Tr [] W3 W5 := u5.ext n12.tr (by omega)
    have t25 : Tr [] W2 W5 := t3.ext t35
    have t05 : Tr [] W W5 := t02.ext t25
    have hS5 := hS.ext t05
    have hnF : ∀ b, W.heap.size ≤ b → b ∉ Fj := fun b hb hm => by
      obtain ⟨_, _, hq0⟩ := hS.mem
      have := hq0.lt b hm
      omega
    have h8F : b8 ∉ Fj := fun hm => (hS.fresh b8 hm).2 rfl
    refine draw_rule cx_ok Fj (Plan.takes [0, 1, 2, 4, 5] (.one true 3 (Plan.takes [6] .done))) (by kernel_rfl) ?_
    intro W6 d
    refine ⟨lc, fun w' t => hS5.lay.all.tr t h8F, hl.len, _, fun w' t => (B11.ext t25).all.tr t (hnF _ (by omega)), rfl, _, fun w' t => t.cell (B12.cell rfl) (hnF _ (by omega)), ?_⟩
    refine ⟨?_, trivial⟩
    have hS6 := hS5.ext d.tr
    refine call (hS6.do hl (by rw [hrl]; omega) (by omega) (by have := Nat.mul_le_mul_right 1200 (show j ≤ 60 by omega); omega) x.1 x.2.1 x.2.2) ?_
    rintro _ W7 ⟨rfl, F7, hS7, hst7⟩
    rw [hlaw1]
    have t7F : Tr Fj W5 W7 := d.tr.of_ext.trans hst7.tr (fun _ h => h) (fun _ h _ => h)
    refine ⟨t7F, fun _ => ?_, fun h => absurd rfl h⟩
    rw [← runF_snoc hoj] at hS7
    have z7 := t7F.size
    have B12' := B12.tr t7F (hnF _ (by omega))
    have hdis : ∀ b, b ∈ F7 → ¬ (D b ∨ (W.heap.size ≤ b ∧ b < W5.heap.size)) := by
      intro b hb hd
      rcases hst7.sub b hb with hb | hb
      · rcases hd with hd | hd
        · exact hFD b hb hd
        · exact hnF b hd.1 hb
      · have := d.heap
        rw [this] at hb
        rcases hd with hd | hd
        · have := hDl b hd; omega
        · omega
    have hw : IntKind.i64.wrap ((j : Int) + 1) = ((j + 1 : Nat) : Int) := by rw [w64 (by omega)]; omega
    have hfit1 : from_ + n ≤ (runF from_ n LS0 (ops.take (j + 1))).length := by rw [hrl]; omega
    have hN1 : j * 1200 + 1200 = (j + 1) * 1200 := by omega
    rw [hN1] at hS7
    refine ⟨_, B12'.cell rfl, fun h0 => ?_, fun h0 => ?_⟩
    · rw [if_pos h0] at hlaw2
      obtain ⟨Z', hZ', hsl'⟩ := hq h0
      have hZ7 : SlD W7 sv Z' (fun b => D b ∨ (W.heap.size ≤ b ∧ b < W5.heap.size)) := ((hsl'.ext t35).tr t7F (fun b hb hd => by
        rcases hd with hd | hd
        · exact hFD b hb hd
        · exact hnF b (by omega) hb)).mono fun b hb => hb.imp_right fun h => ⟨by omega, by omega⟩
      refine ⟨_, B12'.cell rfl, ?_⟩
      refine ⟨lc, hS7.lay.all, hl.len, ?_⟩
      refine call (hS7.read hl hfit1) ?_
      rintro _ W8 ⟨t8, rv, rfl, hrv⟩
      have z8 := t8.size
      refine ⟨fun _ => ?_, fun h => absurd rfl h⟩
      have hZ8 := hZ7.ext t8
      refine call (Same_calls W8 _ _ _ _ hrv (by have := hZ8.slr; rw [hZ', ← hlaw2] at this; exact this)) ?_
      rintro _ W9 ⟨hv, t9⟩
      rw [decide_eq_true rfl] at hv
      subst hv
      have z9 := t9.size
      exact ⟨_, hw, rfl, ⟨j + 1, F7, sv, Z', fun b => D b ∨ (W.heap.size ≤ b ∧ b < W5.heap.size)⟩, ⟨rfl, rfl, rfl, rfl, rfl, rfl, rfl, rfl, trivial⟩, ⟨hjl, (hS7.ext t8).ext t9, hZ8.ext t9, by show Z'.map (·.1) = _; rw [hZ', ← hlaw2], hdis, fun b hb => by
        rcases hb with hb | hb
        · have := hDl b hb; omega
        · omega⟩, by show ops.length - (j + 1) < ops.length - j; omega⟩
    · rw [if_neg h0] at hlaw2
      have hZ7 : SlD W7 now Z D := (hZ.ext t05).tr t7F hFD
      refine ⟨lc, hS7.lay.all, hl.len, ?_⟩
      refine call (hS7.read hl hfit1) ?_
      rintro _ W8 ⟨t8, rv, rfl, hrv⟩
      have z8 := t8.size
      refine ⟨fun _ => ?_, fun h => absurd rfl h⟩
      have hZ8 := hZ7.ext t8
      refine call (Same_calls W8 _ _ _ _ hrv (by have := hZ8.slr; rw [hZS, ← hlaw2] at this; exact this)) ?_
      rintro _ W9 ⟨hv, t9⟩
      rw [decide_eq_true rfl] at hv
      subst hv
      have z9 := t9.size
      exact ⟨_, hw, rfl, ⟨j + 1, F7, now, Z, D⟩, ⟨rfl, rfl, rfl, rfl, rfl, rfl, rfl, rfl, trivial⟩, ⟨hjl, (hS7.ext t8).ext t9, hZ8.ext t9, by show Z.map (·.1) = _; rw [hZS, ← hlaw2], fun b hb hd => hdis b hb (.inl hd), fun b hb => by have := hDl b hb; omega⟩, by show ops.length - (j + 1) < ops.length - j; omega⟩
  have hjl : j = ops.length := by have : ¬ ((j : Nat) : Int) < (ops.length : Int) := hge; omega
  rw [hjl, List.take_length] at hS hLIj
  obtain ⟨LS, hLS⟩ : ∃ LS, LS = runF from_ n LS0 ops := ⟨_, rfl⟩
  have hLSl : LS.length = tot := by rw [hLS, runF_len, hlen0]
  have hzero : ∀ i, i < tot → (i < from_ ∨ from_ + n ≤ i) → LS[i]? = some zeros8 := fun i hi ho => by
    have h1 := runF_out ops hLI0 i ho
    rw [← hLS] at h1
    have h2 : LS0.getD i [] = zeros8 := by rw [hLS0, List.getD_eq_getElem?_getD, List.getElem?_replicate, if_pos hi]; rfl
    rw [h2, List.getD_eq_getElem?_getD, List.getElem?_eq_getElem (by omega)] at h1
    rw [List.getElem?_eq_getElem (by omega)]
    exact congrArg some h1
  rw [← hLS] at hS
  obtain ⟨nev, hnv, hq⟩ := hS.mem
  have hq' := hq
  obtain ⟨bl, bm, rows, evv, span, hm, hrows, hFe⟩ := hq'
  have hrl' : rows.length = tot := by
    have := congrArg List.length hrows
    simpa [hLSl] using this
  obtain ⟨I, hI⟩ : ∃ I, I = rows.map iOf := ⟨_, rfl⟩
  have hIl : I.length = tot := by rw [hI, List.length_map, hrl']
  have hI8 : ∀ r ∈ I, r.1.length = 8 := fun r hr => by
    rw [hI] at hr
    obtain ⟨x, hx, rfl⟩ := List.mem_map.1 hr
    exact (hm.ok x hx).ws.len
  have hIq : I = LS.map fun ws => (ws, enc ws) := by
    have := congrArg (List.map fun l : Ln => (l.ws, l.code)) hrows
    rw [List.map_map, List.map_map] at this
    rw [hI]; exact this
  -- Image
  refine call (Image_calls hm.toMemX) ?_
  rintro _ w5 ⟨t5, bo, rfl, hbo, hBo⟩
  rw [← hI] at hBo
  rw [hrl']
  have z5 := t5.size
  refine ⟨((from_ + n : Nat) : Int), by rw [w64 (by omega)]; omega, ((tot : Nat) : Int), by rw [w64 (by omega)]; omega, fun _ => ?_, fun h => absurd rfl h⟩
  refine call (Image_calls (hm.toMemX.ext t5)) ?_
  rintro _ w6 ⟨t6, bo2, rfl, hbo2, hBo2⟩
  rw [← hI] at hBo2
  rw [hrl']
  have z6 := t6.size
  have hsame := SameImage_calls (w := w6) I hI8 (by omega) bo bo2 tot tot (hBo.ext t6).all hBo2.all
  rw [hIl] at hsame
  refine call hsame ?_
  rintro _ w7 ⟨rfl, t7⟩
  have t57 : Tr [] w5 w7 := t6.ext t7
  have t07 := t5.ext t57
  have hc7 : Cells w7 bo 0 (I.flatMap ilc) := (hBo.ext t57).all
  have hm7 := hm.toMemX.ext t07
  refine loop_rule cx_ok (fun i W' => i ≤ tot ∧ Tr [] w7 W') (fun i : Nat => [(0, .int .i64 n), (1, .int .i64 from_), (7, .pointer (some ⟨p, 0, none⟩)), (15, .slice (some ⟨bo, 0, none⟩) tot tot), (100, .int .i64 tot), (101, .int .i64 i)]) (fun i => tot - i) 0
    ⟨rfl, rfl, rfl, rfl, rfl, rfl, trivial⟩ ⟨by omega, Tr.refl _ _⟩ ?_
  rintro i W' ⟨hi, tW'⟩
  refine ⟨fun hlt => ?_, fun hge => ?_⟩
  · have hin : i < tot := by omega
    obtain ⟨r, hr⟩ : ∃ r, rows[i]? = some r := ⟨_, List.getElem?_eq_getElem (by omega)⟩
    have hpend : r.1.pend = [] := by
      have : r.1 ∈ rows.map (·.1) := List.mem_map.2 ⟨r, List.mem_of_getElem? hr, rfl⟩
      rw [hrows] at this
      obtain ⟨x, _, hx⟩ := List.mem_map.1 this
      rw [← hx]; rfl
    refine call (Pending_calls (hm7.ext tW') i hr (by rw [hpend]; decide)) ?_
    rintro v W1 ⟨hrow, t1'⟩
    rw [hpend] at hrow
    obtain ⟨av, cv, rfl⟩ := Row.slice hrow
    have tW1 := tW'.ext t1'
    have hw : IntKind.i64.wrap ((i : Int) + 1) = ((i + 1 : Nat) : Int) := by rw [w64 (by omega)]; omega
    have step : i + 1 ≤ tot ∧ Tr [] w7 W1 := ⟨hin, tW1⟩
    refine ⟨fun _ => ?_, fun h => absurd rfl h⟩
    have zero : (i < from_ ∨ from_ + n ≤ i) → I[i]? = some (zeros8, enc zeros8) := fun ho => by
      rw [hIq, List.getElem?_map, hzero i hin ho]; rfl
    refine ⟨fun h1 => ?_, fun h1 => ?_⟩
    · have hc := (fm_at9 hI8 (zero (.inl (by omega))) hc7).ext tW1
      have hc8 : Cells W1 bo (0 + i * 9 + 0) (wcells zeros8) := fun k v hv => hc k v (by
        unfold ilc
        rw [List.getElem?_append_left (List.getElem?_eq_some_iff.1 hv).1]
        exact hv)
      refine ⟨i, rfl, hin, wcells zeros8, hc8, rfl, _, rfl, ?_⟩
      refine neq_flat (d := 4) (by decide) flat_words wide_words guard_words _ _ (xs := List.replicate 8 0) (ys := List.replicate 8 0) rfl rfl rfl rfl W1 ?_
      exact ⟨_, hw, rfl, i + 1, ⟨rfl, rfl, rfl, rfl, rfl, rfl, trivial⟩, step, by omega⟩
    · refine ⟨((from_ + n : Nat) : Int), by rw [w64 (by omega)]; omega, fun h2 => ?_, fun h2 => ?_⟩
      · have hc := (fm_at9 hI8 (zero (.inr (by omega))) hc7).ext tW1
        have hc8 : Cells W1 bo (0 + i * 9 + 0) (wcells zeros8) := fun k v hv => hc k v (by
          unfold ilc
          rw [List.getElem?_append_left (List.getElem?_eq_some_iff.1 hv).1]
          exact hv)
        refine ⟨i, rfl, hin, wcells zeros8, hc8, rfl, _, rfl, ?_⟩
        refine neq_flat (d := 4) (by decide) flat_words wide_words guard_words _ _ (xs := List.replicate 8 0) (ys := List.replicate 8 0) rfl rfl rfl rfl W1 ?_
        exact ⟨_, hw, rfl, i + 1, ⟨rfl, rfl, rfl, rfl, rfl, rfl, trivial⟩, step, by omega⟩
      · exact ⟨_, hw, rfl, i + 1, ⟨rfl, rfl, rfl, rfl, rfl, rfl, trivial⟩, step, by omega⟩
  · have tw := (hS.tr.ext t07).ext tW'
    refine call (sanity_calls W' (hg.ext tw)) ?_
    rintro _ W5 ⟨rfl, t5'⟩
    exact ⟨rfl, tw.ext t5'⟩

end

end Go.Proofs.YtlfolinjajjgjaaDoor
