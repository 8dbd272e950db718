/- IntentKeeps: what the law's function returns. -/
import Derived.Test.YtlfolinjajjgjaaDoorN4
namespace Go.Proofs.YtlfolinjajjgjaaDoor
open Go.E

theorem ptr_nil_ne {t e : Nat} {x : TI} (ht : tget cx.tb t = some x) (hx : cx.P.underlying t = some (.pointer e)) (p q : Operand) (a : Addr) (w : World) :
    (do eqGuard .neq t p q (.pointer (some a)) (.pointer none); binOp .neq t (.pointer (some a)) (.pointer none) : Sem Value).run cx.P w = .ok (.bool true) w := by
  have hu : (underlying t).run cx.P w = .ok (.pointer e) w := by simp [underlying, hx]
  have he : (Op.equal t (.pointer (some a)) (.pointer none)).run cx.P w = .ok false w := by
    show (Op.equalIn (9999 + 1) t (.pointer (some a)) (.pointer none)).run cx.P w = _
    unfold Op.equalIn
    simp only [Sem.run_bind, hu, Result.andThen_ok]
    rfl
  simp [eqGuard, binOp, he]

section
variable {w : World}

set_option maxHeartbeats 4000000 in
theorem IntentKeeps_calls (hg : Gl w) (slots : Int) (ops : List (Int × Int × Int)) (s : Value) (hs : OpsR w s ops) (last : Int) :
    Calls cx.P 4 #[.int .i64 slots, s, .int .i64 last] w (Ret fun v w' => v = .bool true ∧ Tr [] w w') := by
  obtain ⟨ao, co, rfl, hs⟩ := hs
  obtain ⟨sl, hsl, hand⟩ := and7 slots
  refine calls_body cx_ok (args := [.int .i64 slots, .slice ao ops.length co, .int .i64 last]) Tryd.func4 rfl 158 rfl rfl [.tmp 6] rfl ?_
  refine ⟨_, hand, ((1 + sl : Nat) : Int), by rw [w64 (by omega)]; omega, ?_⟩
  obtain ⟨n, hn⟩ : ∃ n, n = 1 + sl := ⟨_, rfl⟩
  rw [← hn]
  refine call (New_calls w hg n (by omega) (by omega)) ?_
  rintro _ w1 ⟨t1, p, F, rfl, hQ, hF⟩
  have hg1 := hg.ext t1
  refine ⟨.bool false, w1, ptr_nil (t := 23) rfl under_mem _ _ _ _, fun h60 => ?_, fun h60 => ?_⟩
  · refine ⟨.bool true, w1, ptr_nil_ne (t := 23) rfl under_mem _ _ _ _, ?_⟩
    refine call (sanity_calls w1 hg1) ?_
    rintro _ w2 ⟨rfl, t2⟩
    exact ⟨rfl, t1.ext t2⟩
  refine call (area_calls n 0 n w1) ?_
  rintro _ w2 ⟨rfl, t2⟩
  intro b8 w3 n3
  have e3 := n3.num; have z3 := n3.size
  refine ⟨_, _, n3.blk, rfl, by show 0 + 8 ≤ 8; decide, rfl, fun w4 u4 => ?_⟩
  obtain ⟨lc, hlc⟩ : ∃ lc, lc = layC n 0 n := ⟨_, rfl⟩
  have B8 : Blk w4 b8 lc 27 := by rw [hlc]; exact Upd.whole u4 rfl rfl
  have z1 := t1.size; have z2 := t2.size
  have t24 : Tr [] w1 w4 := u4.ext (t2.ext n3.tr) (by omega)
  have t4 : Tr [] w w4 := t1.ext t24
  have hl : LayC lc 0 n := by rw [hlc]; exact layC_ok n 0 n
  obtain ⟨LS0, hLS0⟩ : ∃ LS0, LS0 = List.replicate n zeros8 := ⟨_, rfl⟩
  rw [← hLS0] at hQ
  have hlen0 : LS0.length = n := by rw [hLS0]; simp
  have hLI0 : LI LS0 0 n := by rw [hLS0]; exact LI.start (by omega)
  have S0 : San w w4 p b8 lc LS0 0 F := ⟨⟨0, Nat.le_refl _, hQ.ext t24⟩, t4, fun x hx => ⟨hF x hx, fun e => by have := hQ.lt x hx; omega⟩, B8, hg.ext t4⟩
  have hrl : ∀ j, (runF 0 n LS0 (ops.take j)).length = n := fun j => by
    have hLI : LI (runF 0 n LS0 (ops.take j)) 0 n := hLI0.run _
    have : ∀ (o : List (Int × Int × Int)) (L : List (List Nat)), (runF 0 n L o).length = L.length := by
      intro o
      induction o with
      | nil => intro L; rfl
      | cons x r ih =>
        intro L
        show (runF 0 n (doF 0 n L x.1 x.2.1 x.2.2).2 r).length = _
        rw [ih]
        unfold doF
        split
        · exact eachF_len
        · split
          · unfold stampF
            split
            · rfl
            · exact eachF_len
          · unfold addF
            split
            · rfl
            · split
              · rfl
              · split
                · rfl
                · unfold openA
                  split
                  · simp
                  · split
                    · simp
                    · rfl
    rw [this, hlen0]
  -- the script
  refine loop_rule cx_ok (α := Nat × List Nat) (fun (⟨j, F⟩ : Nat × List Nat) W => j ≤ ops.length ∧ San w W p b8 lc (runF 0 n LS0 (ops.take j)) (j * 1200) F)
    (fun (⟨j, F⟩ : Nat × List Nat) => [(2, .int .i64 last), (7, .pointer (some ⟨p, 0, none⟩)), (8, .pointer (some ⟨b8, 0, none⟩)), (47, .slice ao ops.length co), (48, .int .i64 ops.length), (49, .int .i64 j)]) (fun x => ops.length - x.1) (0, F) ⟨rfl, rfl, rfl, rfl, rfl, rfl, trivial⟩ ⟨by omega, S0⟩ ?_
  rintro ⟨j, Fj⟩ W ⟨hj, hS⟩
  have hl60 : ops.length ≤ 60 := by omega
  refine ⟨fun hlt => ?_, fun hge => ?_⟩
  · have hjl : j < ops.length := by omega
    obtain ⟨g, o, rfl, hc⟩ := hs.resolve_left (fun h0 => by omega)
    have hoj : ops[j]? = some ops[j] := List.getElem?_eq_getElem hjl
    obtain ⟨x, hx⟩ : ∃ x, x = ops[j] := ⟨_, rfl⟩
    rw [← hx] at hoj
    refine ⟨j, rfl, hjl, _, (hc j x hoj).ext hS.tr, rfl, ?_⟩
    intro b10 W1 n10
    have e10 := n10.num; have z10 := n10.size
    refine ⟨_, _, n10.blk, rfl, by show 0 + 3 ≤ 3; decide, rfl, fun W2 u2 => ?_⟩
    have B10 : Blk W2 b10 [.int .i64 x.1, .int .i64 x.2.1, .int .i64 x.2.2] 31 := Upd.whole u2 rfl rfl
    have hS2 := hS.ext (u2.ext n10.tr (by omega))
    refine ⟨lc, hS2.lay.all, hl.len, _, B10.all, rfl, ?_⟩
    refine call (hS2.do hl (by rw [hrl]; omega) (by omega) (by have := Nat.mul_le_mul_right 1200 (show j ≤ 60 by omega); omega) x.1 x.2.1 x.2.2) ?_
    rintro _ W3 ⟨rfl, F3, hS3, _⟩
    refine ⟨((j + 1 : Nat) : Int), by rw [w64 (by omega)]; omega, ?_⟩
    exact ⟨rfl, (j + 1, F3), ⟨rfl, rfl, rfl, rfl, rfl, rfl, trivial⟩, ⟨hjl, by rw [runF_snoc hoj, show (j + 1) * 1200 = j * 1200 + 1200 by omega]; exact hS3⟩, by show ops.length - (j + 1) < ops.length - j; omega⟩
  have hjl : j = ops.length := by omega
  rw [hjl, List.take_length] at hS
  obtain ⟨LS, hLS⟩ : ∃ LS, LS = runF 0 n LS0 ops := ⟨_, rfl⟩
  rw [← hLS] at hS
  have hLI : LI LS 0 n := by rw [hLS]; exact hLI0.run ops
  have hfit := hLI.fit
  obtain ⟨S, hSd⟩ : ∃ S, S = slotsN LS 0 n := ⟨_, rfl⟩
  have hSl : S.length ≤ 8 := by have := slotsN_len LS 0 n; rw [← hSd] at this; omega
  -- Read, Crash, Read
  obtain ⟨nev, hnv, hq⟩ := hS.mem
  refine ⟨lc, hS.lay.all, hl.len, ?_⟩
  refine call (QRead_calls hq hS.gl hl hfit) ?_
  rintro _ w5 ⟨t5, sv, Z, rfl, hZ, hZS, hbs⟩
  rw [← hSd] at hZS
  have hS5 := hS.ext t5
  refine call (Crash_calls (hq.ext t5)) ?_
  rintro _ w6 ⟨rfl, F6, hq6, hs6⟩
  have hS6 : San w w6 p b8 lc LS 0 F6 := hS5.step (Nat.le_refl _) hq6 hs6
  have hZ6 := hZ.tr hs6.tr fun b hb hm => by
    have := hbs b hm
    have := hq.lt b hb
    omega
  refine ⟨fun _ => ?_, fun h => absurd rfl h⟩
  refine ⟨lc, hS6.lay.all, hl.len, ?_⟩
  refine call (hS6.read hl hfit) ?_
  rintro _ w7 ⟨t7, sv2, rfl, hsv2⟩
  rw [← hSd] at hsv2
  have h6b : ∀ s ∈ S, s.blocks.length ≤ 1048576 := fun s hs => by
    have := slots_small (from_ := 0) (n := n) hLI.len8 hfit s (by rw [← hSd]; exact hs)
    omega
  have hsv : SlR w7 sv S := (hZ6.slr hZS (by omega) h6b).ext t7
  refine ⟨fun _ => ⟨fun _ => ?_, fun h => absurd rfl h⟩, fun h => absurd rfl h⟩
  refine call (Same_calls w7 S S _ _ hsv hsv2) ?_
  rintro _ w8 ⟨hv, t8⟩
  rw [decide_eq_true rfl] at hv
  subst hv
  have hsv := hsv.ext t8
  have hS8 := (hS6.ext t7).ext t8
  intro bk w9 n9
  have e9 := n9.num; have z9 := n9.size
  have hM9 : IM w9 bk (kmap []) := (IM.new n9).congr fun k => rfl
  have hS9 := hS8.ext n9.tr
  have hsv8 := hsv
  obtain ⟨a, c, hsve, hsn, hcs⟩ := hsv
  subst hsve
  -- the blocks
  obtain ⟨all, hall⟩ : ∃ all, all = S.flatMap (·.blocks) := ⟨_, rfl⟩
  have halln : all.Nodup := by rw [hall, hSd, slots_bof]; exact hLI.nodup
  have hgood : ∀ x ∈ all, rightP (x : Int) = true ∧ (x : Int) < 9223372036854775807 := by
    intro x hx
    rw [hall, hSd, slots_bof] at hx
    obtain ⟨i, hi, hxi⟩ := List.mem_flatMap.1 hx
    have hr := (hLI.good i (List.mem_range.1 hi) x hxi).1
    refine ⟨hr, ?_⟩
    unfold rightP at hr
    have := of_decide_eq_true hr
    omega
  have hsplit : ∀ i s, S[i]? = some s → all = (S.take i).flatMap (·.blocks) ++ (s.blocks ++ (S.drop (i + 1)).flatMap (·.blocks)) := by
    intro i s his
    have hi := (List.getElem?_eq_some_iff.1 his).1
    have hsi := (List.getElem?_eq_some_iff.1 his).2
    rw [hall]
    conv => lhs; rw [← List.take_append_drop i S, List.drop_eq_getElem_cons hi, hsi]
    rw [List.flatMap_append, List.flatMap_cons]
  -- the first two loops
  refine loop_rule cx_ok (fun i W => i ≤ S.length ∧ Tr [bk] w9 W ∧ IM W bk (kmap ((S.take i).flatMap (·.blocks))))
    (fun i : Nat => [(2, .int .i64 last), (11, .slice a S.length c), (15, .map (some bk)), (86, .slice a S.length c), (87, .int .i64 S.length), (88, .int .i64 i)]) (fun i => S.length - i) 0 ⟨rfl, rfl, rfl, rfl, rfl, rfl, trivial⟩ ⟨by omega, Tr.refl _ _, hM9⟩ ?_
  have hnodup : ∀ i s j x, S[i]? = some s → s.blocks[j]? = some x → x ∈ all ∧ x ∉ (S.take i).flatMap (·.blocks) ++ s.blocks.take j := by
    intro i s j x hsi hx
    have hs := hsplit i s hsi
    have hjl := (List.getElem?_eq_some_iff.1 hx).1
    have hjx := (List.getElem?_eq_some_iff.1 hx).2
    have hsb : s.blocks = s.blocks.take j ++ (x :: s.blocks.drop (j + 1)) := by
      conv => lhs; rw [← List.take_append_drop j s.blocks, List.drop_eq_getElem_cons hjl, hjx]
    have h2 : all = ((S.take i).flatMap (·.blocks) ++ s.blocks.take j) ++ (x :: (s.blocks.drop (j + 1) ++ (S.drop (i + 1)).flatMap (·.blocks))) := by
      rw [hs]
      conv => lhs; rw [hsb]
      simp
    refine ⟨by rw [h2]; simp, fun hm => ?_⟩
    have hn := halln
    rw [h2, List.nodup_append] at hn
    exact hn.2.2 x hm x (by simp) rfl
  rintro i W ⟨hi, tW, hM⟩
  have zW := tW.size
  have tW8 : Tr [] w8 W := n9.tr.trans tW (fun _ h => h) (fun b hb hlt => by simp at hb; omega)
  refine ⟨fun hlt => ?_, fun hge => ?_⟩
  · have hil : i < S.length := by omega
    obtain ⟨g, o, rfl, hc⟩ := hcs.resolve_left (fun hh => by have := hh.2; omega)
    have hsi : S[i]? = some S[i] := List.getElem?_eq_getElem hil
    obtain ⟨x, hx⟩ : ∃ x, x = S[i] := ⟨_, rfl⟩
    rw [← hx] at hsi
    obtain ⟨hb6, bv, hc1, hc2⟩ := hc i x hsi
    have hc2' := hc2
    obtain ⟨ab, cb, rfl, _, hbc⟩ := hc2'
    refine ⟨i, rfl, hil, zcells (x, .slice ab x.blocks.length cb), hc1.ext tW8, rfl, ?_⟩
    intro b17 W1 n17
    have e17 := n17.num; have z17 := n17.size
    refine ⟨_, _, n17.blk, rfl, by show 0 + 4 ≤ 4; decide, rfl, fun W2 u2 => ?_⟩
    have B17 : Blk W2 b17 (zcells (x, .slice ab x.blocks.length cb)) 54 := Upd.whole u2 rfl rfl
    have tW2 : Tr [] W W2 := u2.ext n17.tr (by omega)
    have p17 : W2.cell? ⟨b17, 0 + 3, none⟩ = some (.slice ab x.blocks.length cb) := B17.cell rfl
    refine ⟨_, p17, ?_⟩
    have hbkW : bk < W.heap.size := by omega
    refine loop_rule cx_ok (fun j W3 => j ≤ x.blocks.length ∧ Tr [bk] w9 W3 ∧ IM W3 bk (kmap ((S.take i).flatMap (·.blocks) ++ x.blocks.take j)))
      (fun j : Nat => [(2, .int .i64 last), (11, .slice (some ⟨g, o, none⟩) S.length c), (15, .map (some bk)), (86, .slice (some ⟨g, o, none⟩) S.length c), (87, .int .i64 S.length), (88, .int .i64 i), (93, .slice ab x.blocks.length cb), (94, .int .i64 x.blocks.length), (95, .int .i64 j)]) (fun j => x.blocks.length - j) 0
      ⟨rfl, rfl, rfl, rfl, rfl, rfl, rfl, rfl, rfl, trivial⟩ ⟨by omega, tW.trans tW2 (fun _ h => h) (fun _ h _ => by cases h), by simpa using hM.tr tW2 (by simp)⟩ ?_
    rintro j W3 ⟨hj, t3, hM3⟩
    have z3' := t3.size
    have t83 : Tr [] w8 W3 := n9.tr.trans t3 (fun _ h => h) (fun b hb hlt => by simp at hb; omega)
    refine ⟨fun hjlt => ?_, fun hjge => ?_⟩
    · have hjl : j < x.blocks.length := by omega
      obtain ⟨g2, o2, rfl, hcc⟩ := hbc.resolve_left (fun hh => by have := hh.2; omega)
      have hxj : x.blocks[j]? = some x.blocks[j] := List.getElem?_eq_getElem hjl
      obtain ⟨y, hy⟩ : ∃ y, y = x.blocks[j] := ⟨_, rfl⟩
      rw [← hy] at hxj
      obtain ⟨hyall, hyno⟩ := hnodup i x j y hsi hxj
      have hcell : W3.cell? ⟨g2, o2 + j * 1, none⟩ = some (.int .i64 (y : Nat)) := by
        rw [Nat.mul_one]
        exact t83.cell (hcc j _ (icells_get hxj)) (by simp)
      refine ⟨j, rfl, hjl, _, hcell, ?_⟩
      refine look_ii hM3 (y : Nat) 0 (.inr ⟨kmap_out hyno, rfl⟩) ?_
      refine ⟨1, by decide, ?_⟩
      refine upd_ii hM3 (y : Nat) 1 fun o4 W4 u4 hM4 => ?_
      rw [kmap_set] at hM4
      have htk : x.blocks.take (j + 1) = x.blocks.take j ++ [y] := by
        rw [List.take_succ_eq_append_getElem hjl, ← hy]
      rw [List.append_assoc, ← htk] at hM4
      have hyin : y ∈ (S.take i).flatMap (·.blocks) ++ x.blocks.take (j + 1) := by rw [htk]; simp
      refine look_ii hM4 (y : Nat) 1 (.inl (kmap_in hyin)) ?_
      refine ⟨fun h => absurd h (by decide), fun _ => ?_⟩
      obtain ⟨hgy1, hgy2⟩ := hgood y hyall
      refine call (Right07_calls (y : Nat) ⟨by omega, by omega⟩ W4) ?_
      rintro _ _ ⟨hv, rfl⟩
      rw [hgy1] at hv
      subst hv
      refine ⟨((j + 1 : Nat) : Int), by rw [w64 (by omega)]; omega, ?_⟩
      exact ⟨rfl, j + 1, ⟨rfl, rfl, rfl, rfl, rfl, rfl, rfl, rfl, rfl, trivial⟩, ⟨hjl, t3.same u4.tr, hM4⟩, by omega⟩
    · have hjl : j = x.blocks.length := by omega
      rw [hjl, List.take_length, ← fm_take (f := (·.blocks)) hsi] at hM3
      refine ⟨((i + 1 : Nat) : Int), by rw [w64 (by omega)]; omega, ?_⟩
      exact ⟨rfl, i + 1, ⟨rfl, rfl, rfl, rfl, rfl, rfl, trivial⟩, ⟨hil, t3, hM3⟩, by omega⟩
  · have hil : i = S.length := by omega
    rw [hil, List.take_length, ← hall] at hM
    -- Lost
    refine call (Lost_calls S _ (hsv8.ext tW8) last) ?_
    rintro lv w10 ⟨t10, hlv, _⟩
    obtain ⟨L, hL⟩ : ∃ L, L = lostF S last := ⟨_, rfl⟩
    rw [← hL] at hlv
    have hLsub : L.Sublist all := by
      rw [hL, hall]
      unfold lostF
      have : ∀ (T : List Sl), (T.flatMap fun s => if s.stamp = 0 ∨ last < (s.stamp : Int) then s.blocks else []).Sublist (T.flatMap (·.blocks)) := by
        intro T
        induction T with
        | nil => exact List.Sublist.refl _
        | cons s r ih =>
          rw [List.flatMap_cons, List.flatMap_cons]
          refine List.Sublist.append ?_ ih
          split
          · exact List.Sublist.refl _
          · exact List.nil_sublist _
      exact this S
    have hLn := halln.sublist hLsub
    have hLlen : L.length ≤ 4611686018427387904 := by
      have := fm_bound (S := S) (f := fun s => if s.stamp = 0 ∨ last < (s.stamp : Int) then s.blocks else []) (fun s hs => by
        have := h6b s hs
        split
        · exact this
        · simp)
      have h2 : L.length ≤ S.length * 1048576 := by rw [hL]; exact this
      omega
    have hM10 := hM.tr t10 (by simp)
    have z10 := t10.size
    have hbk10 : bk < w10.heap.size := by omega
    obtain ⟨al, cl, hlve, _, hlc2⟩ := Row.sli hlv
    subst hlve
    have hbkW : bk < W.heap.size := by omega
    have tW10 : Tr [] w8 w10 := tW8.ext t10
    -- the row of what is lost lies elsewhere
    have hlrow := Row.elem hlv
    refine loop_rule cx_ok (fun j W3 => j ≤ L.length ∧ Tr [bk] w10 W3 ∧ IM W3 bk (kmap2 (L.take j) all))
      (fun j : Nat => [(2, .int .i64 last), (11, .slice a S.length c), (15, .map (some bk)), (117, .slice al L.length cl), (118, .int .i64 L.length), (119, .int .i64 j)]) (fun j => L.length - j) 0
      ⟨rfl, rfl, rfl, rfl, rfl, rfl, trivial⟩ ⟨by omega, Tr.refl _ _, hM10.congr fun k => by unfold kmap2; simp⟩ ?_
    rintro j W3 ⟨hj, t3, hM3⟩
    have z3' := t3.size
    refine ⟨fun hjlt => ?_, fun hjge => ?_⟩
    · have hjl : j < L.length := by omega
      obtain ⟨g2, o2, rfl, hcc⟩ := hlc2.resolve_left (fun hh => by have := hh.2; omega)
      have hLj : L[j]? = some L[j] := List.getElem?_eq_getElem hjl
      obtain ⟨y, hy⟩ : ∃ y, y = L[j] := ⟨_, rfl⟩
      rw [← hy] at hLj
      have hyL := List.mem_of_getElem? hLj
      have hyall := hLsub.subset hyL
      have hyno : y ∉ L.take j := fun hm => by
        obtain ⟨q, hq⟩ := List.mem_iff_getElem?.1 hm
        rw [List.getElem?_take] at hq
        split at hq
        · have := nodup_at hLn hq hLj
          omega
        · cases hq
      have hg2 : g2 ≠ bk := by
        intro e
        have h0 := hcc j _ (icells_get hLj)
        obtain ⟨es, clock, hb, _⟩ := hM10
        rw [e] at h0
        simp [World.cell?, hb] at h0
      have hcell : W3.cell? ⟨g2, o2 + j * 1, none⟩ = some (.int .i64 (y : Nat)) := by
        rw [Nat.mul_one]
        exact t3.cell (hcc j _ (icells_get hLj)) (by simpa using hg2)
      refine ⟨j, rfl, hjl, _, hcell, ?_⟩
      refine look_ii hM3 (y : Nat) 1 (.inl (by rw [kmap2_out hyno, kmap_in hyall])) ?_
      refine ⟨0, by decide, ?_⟩
      refine upd_ii hM3 (y : Nat) 0 fun o4 W4 u4 hM4 => ?_
      have htk : L.take (j + 1) = L.take j ++ [y] := by rw [List.take_succ_eq_append_getElem hjl, ← hy]
      rw [kmap2_set, ← htk] at hM4
      refine ⟨((j + 1 : Nat) : Int), by rw [w64 (by omega)]; omega, ?_⟩
      exact ⟨rfl, j + 1, ⟨rfl, rfl, rfl, rfl, rfl, rfl, trivial⟩, ⟨hjl, t3.same u4.tr, hM4⟩, by omega⟩
    · have hjl : j = L.length := by omega
      rw [hjl, List.take_length] at hM3
      have t83 : Tr [] w8 W3 := tW10.trans t3 (fun _ h => h) (fun b hb hlt => by simp at hb; omega)
      have t03 : Tr [] w W3 := (hS8.tr).ext t83
      -- the last two loops
      refine loop_rule cx_ok (fun i W4 => i ≤ S.length ∧ Tr [] W3 W4)
        (fun i : Nat => [(2, .int .i64 last), (15, .map (some bk)), (128, .slice a S.length c), (129, .int .i64 S.length), (130, .int .i64 i)]) (fun i => S.length - i) 0 ⟨rfl, rfl, rfl, rfl, rfl, trivial⟩ ⟨by omega, Tr.refl _ _⟩ ?_
      rintro i' W4 ⟨hi', t4'⟩
      refine ⟨fun hlt' => ?_, fun hge' => ?_⟩
      · have hil' : i' < S.length := by omega
        obtain ⟨g, o, rfl, hc⟩ := hcs.resolve_left (fun hh => by have := hh.2; omega)
        have hsi : S[i']? = some S[i'] := List.getElem?_eq_getElem hil'
        obtain ⟨x, hx⟩ : ∃ x, x = S[i'] := ⟨_, rfl⟩
        rw [← hx] at hsi
        obtain ⟨hb6, bv, hc1, hc2⟩ := hc i' x hsi
        obtain ⟨ab, cb, rfl, _, hbc⟩ := hc2
        refine ⟨i', rfl, hil', zcells (x, .slice ab x.blocks.length cb), hc1.ext (t83.ext t4'), rfl, ?_⟩
        intro b24 W5 n24
        have e24 := n24.num; have z24 := n24.size
        refine ⟨_, _, n24.blk, rfl, by show 0 + 4 ≤ 4; decide, rfl, fun W6 u6 => ?_⟩
        have B24 : Blk W6 b24 (zcells (x, .slice ab x.blocks.length cb)) 54 := Upd.whole u6 rfl rfl
        have t46' : Tr [] W4 W6 := u6.ext n24.tr (by omega)
        have p24 : W6.cell? ⟨b24, 0 + 3, none⟩ = some (.slice ab x.blocks.length cb) := B24.cell rfl
        have hM6 := hM3.tr (t4'.ext t46') (by simp)
        refine ⟨_, p24, ?_⟩
        refine loop_rule cx_ok (fun j W7 => j ≤ x.blocks.length ∧ W6 = W7)
          (fun j : Nat => [(2, .int .i64 last), (15, .map (some bk)), (24, .pointer (some ⟨b24, 0, none⟩)), (128, .slice (some ⟨g, o, none⟩) S.length c), (129, .int .i64 S.length), (130, .int .i64 i'), (135, .slice ab x.blocks.length cb), (136, .int .i64 x.blocks.length), (137, .int .i64 j)]) (fun j => x.blocks.length - j) 0
          ⟨rfl, rfl, rfl, rfl, rfl, rfl, rfl, rfl, rfl, trivial⟩ ⟨by omega, rfl⟩ ?_
        rintro j2 _ ⟨hj2, rfl⟩
        refine ⟨fun hjlt2 => ?_, fun hjge2 => ?_⟩
        · have hjl2 : j2 < x.blocks.length := by omega
          obtain ⟨g2, o2, rfl, hcc⟩ := hbc.resolve_left (fun hh => by have := hh.2; omega)
          have hxj : x.blocks[j2]? = some x.blocks[j2] := List.getElem?_eq_getElem hjl2
          obtain ⟨y, hy⟩ : ∃ y, y = x.blocks[j2] := ⟨_, rfl⟩
          rw [← hy] at hxj
          obtain ⟨hyall, _⟩ := hnodup i' x j2 y hsi hxj
          have hcell : W6.cell? ⟨g2, o2 + j2 * 1, none⟩ = some (.int .i64 (y : Nat)) := by
            rw [Nat.mul_one]
            exact ((t83.ext t4').ext t46').cell (hcc j2 _ (icells_get hxj)) (by simp)
          -- is it lost?
          have hlost : y ∈ L ↔ (x.stamp = 0 ∨ last < (x.stamp : Int)) := by
            rw [hL]
            unfold lostF
            rw [List.mem_flatMap]
            constructor
            · rintro ⟨s', hs', hys'⟩
              split at hys'
              · rename_i hcond
                obtain ⟨q, hq⟩ := List.mem_iff_getElem?.1 hs'
                obtain ⟨r, hr⟩ := List.mem_iff_getElem?.1 hys'
                have hqi : q = i' := by
                  rcases Nat.lt_trichotomy q i' with hlt | heq | hgt
                  · exfalso
                    refine (hnodup i' x j2 y hsi hxj).2 (List.mem_append_left _ (List.mem_flatMap.2 ⟨s', ?_, hys'⟩))
                    exact List.mem_of_getElem? (show (S.take i')[q]? = some s' by rw [List.getElem?_take, if_pos hlt]; exact hq)
                  · exact heq
                  · exfalso
                    refine (hnodup q s' r y hq hr).2 (List.mem_append_left _ (List.mem_flatMap.2 ⟨x, ?_, List.mem_of_getElem? hxj⟩))
                    exact List.mem_of_getElem? (show (S.take q)[i']? = some x by rw [List.getElem?_take, if_pos hgt]; exact hsi)
                subst hqi
                rw [hsi] at hq
                obtain rfl := Option.some.inj hq
                exact hcond
              · cases hys'
            · intro hcond
              exact ⟨x, List.mem_of_getElem? hsi, by rw [if_pos hcond]; exact List.mem_of_getElem? hxj⟩
          have hwj : IntKind.i64.wrap ((j2 : Int) + 1) = ((j2 + 1 : Nat) : Int) := by rw [w64 (by omega)]; omega
          refine ⟨j2, rfl, hjl2, _, hcell, ?_⟩
          by_cases hyL : y ∈ L
          · have hcond := hlost.1 hyL
            refine look_ii hM6 (y : Nat) 0 (.inl (kmap2_in hyL)) ?_
            refine ⟨fun h => absurd h (by decide), fun _ => ⟨_, B24.cell rfl, fun h0 => ?_, fun h0 => ?_⟩⟩
            · refine ⟨_, _, bool_neq _ _ false false W6, ?_⟩
              exact ⟨_, hwj, rfl, j2 + 1, ⟨rfl, rfl, rfl, rfl, rfl, rfl, rfl, rfl, rfl, trivial⟩, ⟨hjl2, rfl⟩, by omega⟩
            · refine ⟨_, B24.cell rfl, fun hle => ?_, fun hle => ?_⟩
              · exfalso
                have h0 : ¬ ((x.stamp : Nat) : Int) = 0 := h0
                have hle : ((x.stamp : Nat) : Int) ≤ last := hle
                omega
              · refine ⟨_, _, bool_neq _ _ false false W6, ?_⟩
                exact ⟨_, hwj, rfl, j2 + 1, ⟨rfl, rfl, rfl, rfl, rfl, rfl, rfl, rfl, rfl, trivial⟩, ⟨hjl2, rfl⟩, by omega⟩
          · have hcond : ¬ (x.stamp = 0 ∨ last < (x.stamp : Int)) := fun h => hyL (hlost.2 h)
            refine look_ii hM6 (y : Nat) 1 (.inl (by rw [kmap2_out hyL, kmap_in hyall])) ?_
            refine ⟨fun _ => ⟨_, B24.cell rfl, fun h0 => ?_, fun h0 => ?_⟩, fun h => absurd rfl h⟩
            · exfalso
              have h0 : ((x.stamp : Nat) : Int) = 0 := h0
              omega
            · refine ⟨_, B24.cell rfl, fun hle => ?_, fun hle => ?_⟩
              · refine ⟨_, _, bool_neq _ _ true true W6, ?_⟩
                exact ⟨_, hwj, rfl, j2 + 1, ⟨rfl, rfl, rfl, rfl, rfl, rfl, rfl, rfl, rfl, trivial⟩, ⟨hjl2, rfl⟩, by omega⟩
              · exfalso
                have hle : ¬ ((x.stamp : Nat) : Int) ≤ last := hle
                omega
        · refine ⟨((i' + 1 : Nat) : Int), by rw [w64 (by omega)]; omega, ?_⟩
          exact ⟨rfl, i' + 1, ⟨rfl, rfl, rfl, rfl, rfl, trivial⟩, ⟨hil', t4'.ext t46'⟩, by omega⟩
      · refine call (sanity_calls W4 ((hS8.gl.ext t83).ext t4')) ?_
        rintro _ W5 ⟨rfl, t5'⟩
        exact ⟨rfl, (t03.ext t4').ext t5'⟩

end

end Go.Proofs.YtlfolinjajjgjaaDoor
