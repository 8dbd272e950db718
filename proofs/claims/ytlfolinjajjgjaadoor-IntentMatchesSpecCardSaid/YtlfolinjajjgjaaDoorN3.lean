/- The examples of the chapter: sanity returns true. -/
import Derived.Test.YtlfolinjajjgjaaDoorN2
namespace Go.Proofs.YtlfolinjajjgjaaDoor
open Go.E

theorem ptr_nil {t e : Nat} {x : TI} (ht : tget cx.tb t = some x) (hx : cx.P.underlying t = some (.pointer e)) (p q : Operand) (a : Addr) (w : World) :
    (do eqGuard .eql t p q (.pointer (some a)) (.pointer none); binOp .eql t (.pointer (some a)) (.pointer none) : Sem Value).run cx.P w = .ok (.bool false) w := by
  have hu : (underlying t).run cx.P w = .ok (.pointer e) w := by simp [underlying, hx]
  have he : (Op.equal t (.pointer (some a)) (.pointer none)).run cx.P w = .ok false w := by
    show (Op.equalIn (9999 + 1) t (.pointer (some a)) (.pointer none)).run cx.P w = _
    unfold Op.equalIn
    simp only [Sem.run_bind, hu, Result.andThen_ok]
    rfl
  simp [eqGuard, binOp, he]

theorem under_mem : cx.P.underlying 23 = some (.pointer 73) := by kernel_rfl

def sL : List Value := layC 3 1 2
def sz : List Nat := zeros8
def sLS0 : List (List Nat) := [sz, sz, sz]
def sLS1 : List (List Nat) := [sz, [5, 0, 4116, 0, 0, 0, 0, 0], sz]
def sLS2 : List (List Nat) := [sz, [5, 0, 4116, 12309, 0, 0, 0, 0], sz]
def sLS3 : List (List Nat) := [sz, [5, 3, 4116, 12309, 0, 0, 0, 0], sz]
def sLS4 : List (List Nat) := [sz, [0, 3, 4116, 12309, 0, 0, 0, 0], sz]
theorem s1 : addF 1 2 sLS0 5 4116 = (0, sLS1) := by decide +kernel
theorem s2 : addF 1 2 sLS1 5 12309 = (0, sLS2) := by decide +kernel
theorem s3 : addF 1 2 sLS2 6 4116 = (6, sLS2) := by decide +kernel
theorem s4 : addF 1 2 sLS2 6 0 = (1, sLS2) := by decide +kernel
theorem s5 : stampF 1 2 sLS2 7 1 = (5, sLS2) := by decide +kernel
theorem s6 : stampF 1 2 sLS2 5 3 = (0, sLS3) := by decide +kernel
theorem s7 : closeF 1 2 sLS3 5 = (0, sLS4) := by decide +kernel
theorem s8 : slotsN sLS2 1 2 = [⟨0, 5, 0, [4116, 12309]⟩] := by decide +kernel
theorem s9 : slotsN sLS3 1 2 = [⟨0, 5, 3, [4116, 12309]⟩] := by decide +kernel
theorem s10 : slotsN sLS4 1 2 = [] := by decide +kernel
theorem s11 : lostF [⟨0, 5, 3, [4116, 12309]⟩] 2 = [4116, 12309] := by decide +kernel
theorem s12 : lostF [⟨0, 5, 3, [4116, 12309]⟩] 3 = [] := by decide +kernel
theorem s13 : blocksF [⟨0, 5, 3, [4116, 12309]⟩] 5 = [4116, 12309] := by decide +kernel

/-- A memory that the call made, beside the layout in block b. -/
structure San (w W : World) (p b : Nat) (lc : List Value) (LS : List (List Nat)) (N : Nat) (F : List Nat) : Prop where
  mem : ∃ nev, nev ≤ N ∧ QMem W p LS nev F
  tr : Tr [] w W
  fresh : ∀ x ∈ F, w.heap.size ≤ x ∧ x ≠ b
  lay : Blk W b lc 27
  gl : Gl W

theorem San.ext {w W W' : World} {p b : Nat} {lc : List Value} {LS : List (List Nat)} {N : Nat} {F : List Nat} (h : San w W p b lc LS N F) (t : Tr [] W W') : San w W' p b lc LS N F := by
  obtain ⟨nev, hn, hq⟩ := h.mem
  exact ⟨⟨nev, hn, hq.ext t⟩, h.tr.ext t, h.fresh, h.lay.ext t, h.gl.ext t⟩

theorem San.step {w W W' : World} {p b : Nat} {lc : List Value} {LS LS' : List (List Nat)} {N N' : Nat} {F F' : List Nat} (h : San w W p b lc LS N F) {nev' : Nat} (hn : nev' ≤ N') (hq : QMem W' p LS' nev' F') (hs : Step W W' F F') : San w W' p b lc LS' N' F' := by
  have hF : ∀ x ∈ F, w.heap.size ≤ x := fun x hx => (h.fresh x hx).1
  refine ⟨⟨nev', hn, hq⟩, h.tr.trans hs.tr (fun _ h => h) (fun x hx hlt => by have := hF x hx; omega), fun x hx => ?_, h.lay.tr hs.tr (fun hm => (h.fresh b hm).2 rfl), h.gl.tr hs.tr fun x hx => ?_⟩
  · rcases hs.sub x hx with hx | hx
    · exact h.fresh x hx
    · have := h.lay.lt
      have := h.tr.size
      exact ⟨by omega, by omega⟩
  · obtain ⟨nev, _, hq0⟩ := h.mem
    exact hq0.ge x hx

section
variable {w : World}

theorem San.add {W : World} {p b : Nat} {lc : List Value} {from_ n : Nat} (hl : LayC lc from_ n) {LS : List (List Nat)} (hfit : from_ + n ≤ LS.length) {N : Nat} (hN : N ≤ 100000) {F : List Nat} (h : San w W p b lc LS N F) (owner x : Int) :
    Calls cx.P 26 #[.pointer (some ⟨p, 0, none⟩), .agg lc.toArray, .int .i64 owner, .int .i64 x] W
      (Ret fun v W' => v = .int .i64 (addF from_ n LS owner x).1 ∧ ∃ F', San w W' p b lc (addF from_ n LS owner x).2 (N + 20) F' ∧ Step W W' F F') := by
  obtain ⟨nev, hn, hq⟩ := h.mem
  refine (Add_calls hq h.gl hl hfit owner x (by omega)).mono fun e W' ⟨v, he, hv, F', nev', hq', hs, hn'⟩ => ⟨v, he, hv, F', h.step (by omega) hq' hs, hs⟩

theorem San.stamp {W : World} {p b : Nat} {lc : List Value} {from_ n : Nat} (hl : LayC lc from_ n) {LS : List (List Nat)} (hfit : from_ + n ≤ LS.length) (hn64 : n ≤ 64) {N : Nat} (hN : N ≤ 100000) {F : List Nat} (h : San w W p b lc LS N F) (owner x : Int) :
    Calls cx.P 27 #[.pointer (some ⟨p, 0, none⟩), .agg lc.toArray, .int .i64 owner, .int .i64 x] W
      (Ret fun v W' => v = .int .i64 (stampF from_ n LS owner x).1 ∧ ∃ F', San w W' p b lc (stampF from_ n LS owner x).2 (N + 1200) F' ∧ Step W W' F F') := by
  obtain ⟨nev, hn, hq⟩ := h.mem
  refine (Stamp_calls hq h.gl hl hfit owner x (by omega)).mono fun e W' ⟨v, he, hv, F', nev', hq', hs, hn'⟩ => ⟨v, he, hv, F', h.step (by omega) hq' hs, hs⟩

theorem San.close {W : World} {p b : Nat} {lc : List Value} {from_ n : Nat} (hl : LayC lc from_ n) {LS : List (List Nat)} (hfit : from_ + n ≤ LS.length) (hn64 : n ≤ 64) {N : Nat} (hN : N ≤ 100000) {F : List Nat} (h : San w W p b lc LS N F) (owner : Int) :
    Calls cx.P 30 #[.pointer (some ⟨p, 0, none⟩), .agg lc.toArray, .int .i64 owner] W
      (Ret fun v W' => v = .int .i64 (closeF from_ n LS owner).1 ∧ ∃ F', San w W' p b lc (closeF from_ n LS owner).2 (N + 1200) F' ∧ Step W W' F F') := by
  obtain ⟨nev, hn, hq⟩ := h.mem
  refine (Close_calls hq h.gl hl hfit owner (by omega)).mono fun e W' ⟨v, he, hv, F', nev', hq', hs, hn'⟩ => ⟨v, he, hv, F', h.step (by omega) hq' hs, hs⟩

theorem slots_small {LS : List (List Nat)} {from_ n : Nat} (h8 : ∀ ws ∈ LS, ws.length = 8) (hfit : from_ + n ≤ LS.length) : ∀ s ∈ slotsN LS from_ n, s.blocks.length ≤ 6 := by
  intro s hs
  have hlt := slotsN_lt hs
  have h1 := slotsN_of hs
  unfold slotOf at h1
  split at h1
  · cases h1
  · have hb := congrArg (fun l : List Sl => (l.map (·.blocks))) h1
    simp only [List.map_cons, List.map_nil, List.cons.injEq, and_true] at hb
    rw [← hb]
    apply blocks_le
    apply h8
    rw [List.getD_eq_getElem?_getD, List.getElem?_eq_getElem (by omega)]
    exact List.getElem_mem _

theorem QMem.all8 {W : World} {p nev : Nat} {LS : List (List Nat)} {F : List Nat} (h : QMem W p LS nev F) : ∀ ws ∈ LS, ws.length = 8 := fun ws hws => by
  obtain ⟨i, hi⟩ := List.mem_iff_getElem?.1 hws
  exact (h.line8 hi).len

/-- Read, to read alone. -/
theorem San.read {W : World} {p b : Nat} {lc : List Value} {from_ n : Nat} (hl : LayC lc from_ n) {LS : List (List Nat)} (hfit : from_ + n ≤ LS.length) {N : Nat} {F : List Nat} (h : San w W p b lc LS N F) :
    Calls cx.P 11 #[.pointer (some ⟨p, 0, none⟩), .agg lc.toArray] W (Ret fun v W' => Tr [] W W' ∧ ∃ sv, v = .tuple #[sv, .int .i64 0] ∧ SlR W' sv (slotsN LS from_ n)) := by
  obtain ⟨nev, hn, hq⟩ := h.mem
  have hsm := hq.small
  refine (QRead_calls hq h.gl hl hfit).mono fun e W' ⟨v, he, ht, sv, Z, hv, hZ, hZS, _⟩ => ⟨v, he, ht, sv, hv, hZ.slr hZS ?_ ?_⟩
  · have := slotsN_len LS from_ n; omega
  · intro s hs
    have := slots_small hq.all8 hfit s hs
    omega

set_option maxHeartbeats 2000000 in
theorem sanity_calls (w : World) (hg : Gl w) : Calls cx.P 7 #[] w (Ret fun v w' => v = .bool true ∧ Tr [] w w') := by
  refine calls_body cx_ok (args := []) Tryd.func7 rfl 131 rfl rfl [.tmp 0] rfl ?_
  refine call (New_calls w hg 3 (by decide) (by decide)) ?_
  rintro _ w1 ⟨t1, p, F, rfl, hQ, hF⟩
  refine ⟨.bool false, w1, ptr_nil (t := 23) rfl under_mem _ _ _ _, ?_⟩
  refine call (area_calls 3 1 2 w1) ?_
  rintro _ w2 ⟨rfl, t2⟩
  intro b2 w3 n3
  have e3 := n3.num; have z3 := n3.size
  refine ⟨_, _, n3.blk, rfl, by show 0 + 8 ≤ 8; decide, rfl, fun w4 u4 => ?_⟩
  have B2 : Blk w4 b2 sL 27 := Upd.whole u4 rfl rfl
  have z1 := t1.size; have z2 := t2.size
  have t24 : Tr [] w1 w4 := u4.ext (t2.ext n3.tr) (by omega)
  have t4 : Tr [] w w4 := t1.ext t24
  have hl : LayC sL 1 2 := layC_ok 3 1 2
  have S0 : San w w4 p b2 sL sLS0 0 F := ⟨⟨0, Nat.le_refl _, hQ.ext t24⟩, t4, fun x hx => ⟨hF x hx, fun e => by have := hQ.lt x hx; omega⟩, B2, hg.ext t4⟩
  refine call (Make_calls 20 1 (by decide) (by decide) w4) ?_
  rintro _ _ ⟨rfl, rfl⟩
  refine call (Make_calls 21 3 (by decide) (by decide) w4) ?_
  rintro _ _ ⟨rfl, rfl⟩
  -- the two calls of Add
  refine draw_rule cx_ok F (Plan.takes [0, 1, 2, 4, 5, 6] (.one true 3 (.one true 7 (Plan.takes [8, 9] .done)))) (by kernel_rfl) ?_
  intro w5 d
  have hb2F : b2 ∉ F := fun hm => (S0.fresh b2 hm).2 rfl
  refine ⟨sL, fun w' t => B2.all.tr t hb2F, rfl, sL, fun w' t => B2.all.tr t hb2F, rfl, ?_⟩
  refine ⟨?_, trivial⟩
  refine call ((S0.ext d.tr).add hl (by decide) (by decide) 5 4116) ?_
  rintro _ w6 ⟨rfl, F1, S1, st1⟩
  rw [s1] at S1 ⊢
  refine ⟨(Step.of_ext d.tr st1).tr, ?_⟩
  refine ⟨?_, trivial⟩
  refine call (S1.add hl (by decide) (by decide) 5 12309) ?_
  rintro _ w7 ⟨rfl, F2, S2, st2⟩
  rw [s2] at S2 ⊢
  refine ⟨(Step.of_ext d.tr (st1.trans st2)).tr, ?_⟩
  -- Read
  refine ⟨sL, S2.lay.all, rfl, ?_⟩
  refine call (S2.read hl (by decide)) ?_
  rintro _ w8 ⟨t8, sv, rfl, hsv⟩
  rw [s8] at hsv
  have S2 := S2.ext t8
  refine ⟨fun _ => ⟨fun _ => ⟨fun _ => ?_, fun h => absurd rfl h⟩, fun h => absurd rfl h⟩, fun h => absurd rfl h⟩
  -- Same
  refine ⟨_, rfl, fun g1 w9 n9 => ?_⟩
  refine ⟨_, rfl, _, rfl, fun g2 w10 n10 => ?_⟩
  have hbl : SlR w10 (.slice (some ⟨g2, 0, none⟩) 1 1) [⟨0, 5, 0, [4116, 12309]⟩] := by
    refine ⟨_, 1, rfl, by decide, .inr ⟨g2, 0, rfl, fun i s hs => ?_⟩⟩
    rcases i with _ | i
    · obtain rfl := Option.some.inj (show some (⟨0, 5, 0, [4116, 12309]⟩ : Sl) = some s from hs)
      exact ⟨by decide, .slice (some ⟨g1, 0, none⟩) 2 2, n10.blk.all, _, 2, rfl, by decide, .inr ⟨g1, 0, rfl, (show Blk w9 g1 (icells [4116, 12309]) _ from n9.blk).all.ext n10.tr⟩⟩
    · simp at hs
  have t10 : Tr [] w8 w10 := n9.tr.ext n10.tr
  refine call (Same_calls w10 _ _ _ _ (hsv.ext t10) hbl) ?_
  rintro _ w11 ⟨rfl, t11⟩
  have S2 := (S2.ext t10).ext t11
  -- two
  refine ⟨sL, S2.lay.all, rfl, ?_⟩
  refine call (S2.add hl (by decide) (by decide) 6 4116) ?_
  rintro _ w12 ⟨rfl, F3, S3, st3⟩
  rw [s3] at S3 ⊢
  refine ⟨fun _ => ?_, fun h => absurd rfl h⟩
  refine ⟨sL, S3.lay.all, rfl, ?_⟩
  refine call (S3.add hl (by decide) (by decide) 6 0) ?_
  rintro _ w13 ⟨rfl, F4, S4, st4⟩
  rw [s4] at S4 ⊢
  refine ⟨fun _ => ?_, fun h => absurd rfl h⟩
  refine ⟨sL, S4.lay.all, rfl, ?_⟩
  refine call (S4.stamp hl (by decide) (by decide) (by decide) 7 1) ?_
  rintro _ w14 ⟨rfl, F5, S5, st5⟩
  rw [s5] at S5 ⊢
  refine ⟨fun _ => ?_, fun h => absurd rfl h⟩
  refine ⟨sL, S5.lay.all, rfl, ?_⟩
  refine call (S5.stamp hl (by decide) (by decide) (by decide) 5 3) ?_
  rintro _ w15 ⟨rfl, F6, S6, st6⟩
  rw [s6] at S6 ⊢
  refine ⟨fun _ => ?_, fun h => absurd rfl h⟩
  -- Read again
  refine ⟨sL, S6.lay.all, rfl, ?_⟩
  refine call (S6.read hl (by decide)) ?_
  rintro _ w16 ⟨t16, sv2, rfl, hsv2⟩
  rw [s9] at hsv2
  have S6 := S6.ext t16
  -- three
  refine call (Lost_calls _ _ hsv2 2) ?_
  rintro lv w17 ⟨t17, hl2, _⟩
  rw [s11] at hl2
  refine ⟨_, rfl, fun g3 w18 n18 => ?_⟩
  have hp : Sli w18 (.slice (some ⟨g3, 0, none⟩) 2 2) 2 (icells [4116, 12309]) := ⟨_, 2, rfl, by decide, .inr ⟨g3, 0, rfl, (show Blk w18 g3 (icells [4116, 12309]) _ from n18.blk).all⟩⟩
  refine call (SameInts_calls w18 [4116, 12309] [4116, 12309] (by decide) _ _ ((Row.sli hl2).ext n18.tr) hp) ?_
  rintro _ w19 ⟨rfl, t19⟩
  have t169 : Tr [] w16 w19 := (t17.ext n18.tr).ext t19
  refine call (Lost_calls _ _ (hsv2.ext t169) 3) ?_
  rintro lv3 w20 ⟨t20, hl3, _⟩
  rw [s12] at hl3
  obtain ⟨a3, c3, rfl⟩ := Row.slice hl3
  refine ⟨fun _ => ?_, fun h => absurd rfl h⟩
  refine call (Blocks_calls _ _ (hsv2.ext (t169.ext t20)) 5) ?_
  rintro bv w21 ⟨t21, hbv, _⟩
  rw [s13] at hbv
  refine ⟨_, rfl, fun g4 w22 n22 => ?_⟩
  have hp4 : Sli w22 (.slice (some ⟨g4, 0, none⟩) 2 2) 2 (icells [4116, 12309]) := ⟨_, 2, rfl, by decide, .inr ⟨g4, 0, rfl, (show Blk w22 g4 (icells [4116, 12309]) _ from n22.blk).all⟩⟩
  refine call (SameInts_calls w22 [4116, 12309] [4116, 12309] (by decide) _ _ ((Row.sli hbv).ext n22.tr) hp4) ?_
  rintro _ w23 ⟨rfl, t23⟩
  have S6 := S6.ext ((((t169.ext t20).ext t21).ext n22.tr).ext t23)
  -- Close, Free
  refine ⟨sL, S6.lay.all, rfl, ?_⟩
  refine call (S6.close hl (by decide) (by decide) (by decide) 5) ?_
  rintro _ w24 ⟨rfl, F7, S7, st7⟩
  rw [s7] at S7 ⊢
  refine ⟨sL, S7.lay.all, rfl, ?_⟩
  obtain ⟨nev, hn, bl, bm, rows, evv, span, hm, hrows, hFe⟩ := S7.mem
  have hlen : rows.length = 3 := by have := congrArg List.length hrows; simpa [sLS4] using this
  refine call (Free_calls hm.toMemX S7.gl hl (by omega) (by decide)) ?_
  rintro v w25 ⟨t25, hv⟩
  rw [rd_quiet hrows 2 (by decide), s10] at hv
  subst hv
  refine ⟨fun _ => ⟨fun _ => ⟨fun _ => ?_, fun h => absurd rfl h⟩, fun h => absurd rfl h⟩, fun h => absurd rfl h⟩
  exact ⟨rfl, S7.tr.ext t25⟩

end

end Go.Proofs.YtlfolinjajjgjaaDoor
