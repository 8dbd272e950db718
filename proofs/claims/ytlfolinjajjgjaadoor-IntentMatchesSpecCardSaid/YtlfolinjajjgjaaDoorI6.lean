/- intent.Add on a quiet memory: its contract. -/
import Derived.Test.YtlfolinjajjgjaaDoorI5
namespace Go.Proofs.YtlfolinjajjgjaaDoor
open Go.E

theorem any_take_false {α : Type} {f : α → Bool} {l : List α} (h : ∀ (i : Nat) (x : α), l[i]? = some x → f x = false) : l.any f = false := by
  rw [List.any_eq_false]
  intro x hx
  obtain ⟨i, hi⟩ := List.mem_iff_getElem?.1 hx
  rw [h i x hi]
  decide

section
variable {w : World}

structure AS where
  j : Nat

set_option maxHeartbeats 2000000 in
theorem Add_calls {p nev : Nat} {LS : List (List Nat)} {F : List Nat} (h : QMem w p LS nev F) (hg : Gl w) {lc : List Value} {from_ n : Nat} (hl : LayC lc from_ n) (hfit : from_ + n ≤ LS.length) (owner x : Int) (hnev : nev ≤ 274877906944) :
    Calls cx.P 26 #[.pointer (some ⟨p, 0, none⟩), .agg lc.toArray, .int .i64 owner, .int .i64 x] w
      (Ret fun v w' => v = .int .i64 (addF from_ n LS owner x).1 ∧ ∃ F' nev', QMem w' p (addF from_ n LS owner x).2 nev' F' ∧ Step w w' F F' ∧ nev' ≤ nev + 20) := by
  have hsml := h.small
  refine calls_body cx_ok (args := [.pointer (some ⟨p, 0, none⟩), .agg lc.toArray, .int .i64 owner, .int .i64 x]) Tryd.func26 rfl 123 rfl rfl [.tmp 8] rfl ?_
  intro b5 w1 n1
  have e1 := n1.num; have z1 := n1.size
  have B5 : Blk w1 b5 lc 27 := n1.blk
  refine ⟨lc, B5.all, hl.len, ?_⟩
  refine call (QRead_calls (h.ext n1.tr) (hg.ext n1.tr) hl hfit) ?_
  rintro _ w2 ⟨t2, sv, Z, rfl, hZ, hZS, hbs⟩
  have t12 : Tr [] w w2 := n1.tr.ext t2
  have hQ2 := h.ext t12
  have hg2 := hg.ext t12
  have hblt := h.lt
  refine ⟨fun _ => ?_, fun h => absurd rfl h⟩
  obtain ⟨S, hS⟩ : ∃ S, S = slotsN LS from_ n := ⟨_, rfl⟩
  rw [← hS] at hZS
  have hSl := slotsN_len LS from_ n
  rw [← hS] at hSl
  have hlZ : Z.length = S.length := by rw [← hZS]; simp
  have hadd : addF from_ n LS owner x = if badA owner x then ((1 : Int), LS) else if twiceA S x then (6, LS) else if stampedA S owner then (4, LS) else openA from_ n LS S owner x := by rw [hS]; rfl
  obtain ⟨R, hR⟩ : ∃ R, R = addF from_ n LS owner x := ⟨_, rfl⟩
  rw [← hR]
  rw [← hR] at hadd
  -- an answer that leaves the memory as it was
  have same : ∀ (W : World) (e : Int) (S0 : List Nat), Tr S0 w W → (∀ b ∈ S0, w.heap.size ≤ b) → R = (e, LS) → Value.int .i64 e = .int .i64 R.1 ∧ ∃ F' nev', QMem W p R.2 nev' F' ∧ Step w W F F' ∧ nev' ≤ nev + 20 := by
    intro W e S0 t hS0 hRe
    have t' : Tr [] w W := t.mono fun b hb hlt => by have := hS0 b hb; omega
    rw [hRe]
    exact ⟨rfl, F, nev, h.ext t', ⟨t'.of_ext, fun b hb => .inl hb⟩, by omega⟩
  have bad : badA owner x = true → ∀ W, Tr [] w W → Value.int .i64 1 = .int .i64 R.1 ∧ ∃ F' nev', QMem W p R.2 nev' F' ∧ Step w W F F' ∧ nev' ≤ nev + 20 := fun hb W t => same W 1 [] t (by simp) (by rw [hadd, if_pos hb])
  refine ⟨fun h1 => ?_, fun h1 => ⟨fun h2 => ?_, fun h2 => ⟨fun h3 => ?_, fun h3 => ?_⟩⟩⟩
  · exact bad (by simp [badA, h1]) w2 t12
  · exact bad (by simp [badA, h2]) w2 t12
  · exact bad (by simp [badA, h3]) w2 t12
  refine call (Right_calls x w2 hg2) ?_
  rintro _ w3 ⟨rfl, t3⟩
  cases hrp : rightP x with
  | false => exact bad (by simp [badA, hrp]) w3 (t12.ext t3)
  | true =>
  have hgood : badA owner x = false := by
    unfold badA
    rw [hrp, decide_eq_false (by omega)]
    rfl
  rw [if_neg (by rw [hgood]; decide)] at hadd
  obtain ⟨ow, rfl⟩ := Int.eq_ofNat_of_zero_le (show 0 ≤ owner by omega)
  have hx0 : 0 ≤ x ∧ x < 4294967296 := by
    unfold rightP at hrp
    have := of_decide_eq_true hrp
    omega
  obtain ⟨xx, rfl⟩ := Int.eq_ofNat_of_zero_le hx0.1
  intro bu w4 n4
  have e4 := n4.num; have z4 := n4.size; have zt3 := t3.size; have zt12 := t12.size; have zt2 := t2.size
  have t4 : Tr [] w w4 := (t12.ext t3).ext n4.tr
  have t24 : Tr [] w2 w4 := t3.ext n4.tr
  have hZ4 := hZ.ext t24
  have C5 : Blk w4 b5 lc 27 := B5.ext (t2.ext t24)
  have hb5 : w.heap.size ≤ b5 ∧ b5 < w4.heap.size := ⟨by omega, C5.lt⟩
  obtain ⟨a, c, hsv⟩ := Row.slice hZ4.row
  have hrow := Row.elem hZ4.row
  have hsb : ∀ b ∈ sblocks sv Z, w.heap.size ≤ b ∧ b < w2.heap.size := fun b hb => ⟨by have := hbs b hb; omega, hZ.lt b hb⟩
  subst hsv
  have hM0 : IM w4 bu (usedM S 0) := (IM.new n4).congr fun k => by simp [usedM, usedA]
  refine loop_rule cx_ok (fun (s : AS) W => s.j ≤ Z.length ∧ Tr [bu] w4 W ∧ IM W bu (usedM S s.j) ∧ (∀ i s', i < s.j → S[i]? = some s' → (s'.blocks.any fun y : Nat => ((xx : Nat) : Int) == (y : Int)) = false))
    (fun s => [(0, .pointer (some ⟨p, 0, none⟩)), (2, .int .i64 (ow : Nat)), (3, .int .i64 (xx : Nat)), (5, .pointer (some ⟨b5, 0, none⟩)), (9, .slice a Z.length c), (11, .map (some bu)), (12, .int .i64 (atF S (ow : Nat) s.j)), (13, .bool (stampedA (S.take s.j) (ow : Nat))), (42, .slice a Z.length c), (43, .int .i64 Z.length), (44, .int .i64 s.j)]) (fun s => Z.length - s.j)
    ⟨0⟩ ⟨rfl, rfl, rfl, rfl, rfl, rfl, rfl, rfl, rfl, rfl, rfl, trivial⟩ ⟨by show 0 ≤ _; omega, Tr.refl _ _, hM0, fun i s' hi => by have : i < 0 := hi; omega⟩ ?_
  rintro ⟨j⟩ W ⟨hj, tW, hM, hno⟩
  have hj : j ≤ Z.length := hj
  have hM : IM W bu (usedM S j) := hM
  have hno : ∀ i s', i < j → S[i]? = some s' → (s'.blocks.any fun y : Nat => ((xx : Nat) : Int) == (y : Int)) = false := hno
  have zW := tW.size
  have hZW : SlW W (.slice a Z.length c) Z := hZ4.tr tW fun b hb hm => by have := (hsb b hm).2; simp at hb; omega
  have twW : Tr [] w W := t4.trans tW (fun _ h => h) (fun b hb hlt => by simp at hb; omega)
  refine ⟨fun hlt => ?_, fun hge => ?_⟩
  · -- a round
    have hjl : j < Z.length := by have : ((j : Nat) : Int) < (Z.length : Int) := hlt; omega
    have hz : Z[j]? = some Z[j] := List.getElem?_eq_getElem hjl
    obtain ⟨z, hzd⟩ : ∃ z, z = Z[j] := ⟨_, rfl⟩
    rw [← hzd] at hz
    have hzm := List.mem_of_getElem? hz
    obtain ⟨g, cap', hv, _, _, hc⟩ := (Row.elem hZW.row).resolve_left (fun hh => by have := hh.2; omega)
    cases hv
    refine ⟨j, rfl, hjl, zcells z, zcells_get hz hc, rfl, ?_⟩
    intro b15 W1 n15
    have e15 := n15.num; have z15 := n15.size
    have h1z : (zcells z).all E.one = true := by
      have := Row.one (hZW.blk z hzm)
      simp only [zcells, List.all_cons, this, List.all_nil]
      rfl
    refine ⟨_, _, n15.blk, rfl, by show 0 + 4 ≤ 4; decide, h1z, fun W2 u2 => ?_⟩
    have z2' := u2.size
    have B15 : Blk W2 b15 (zcells z) 54 := Upd.whole u2 rfl rfl
    have tW2 : Tr [] W W2 := u2.ext n15.tr (by omega)
    have hSj : S[j]? = some z.1 := by rw [← hZS, List.getElem?_map, hz]; rfl
    have hjS : j < S.length := by omega
    have htake : S.take (j + 1) = S.take j ++ [z.1] := by
      rw [List.take_succ_eq_append_getElem hjS]
      congr 2
      exact (List.getElem?_eq_some_iff.1 hSj).2
    refine ⟨_, B15.cell rfl, ?_⟩
    have hbz := (hZW.ext tW2).blk z hzm
    have hbl : z.1.blocks.length ≤ 6 := by
      have : z.1 ∈ slotsN LS from_ n := by rw [← hS]; exact List.mem_of_getElem? hSj
      have h1 := slotsN_of this
      unfold slotOf at h1
      split at h1
      · cases h1
      · have hb := congrArg (fun l : List Sl => (l.map (·.blocks))) h1
        simp only [List.map_cons, List.map_nil, List.cons.injEq, and_true] at hb
        rw [← hb]
        have hlen := (h.line8 (i := from_ + z.1.slot) (ws := LS.getD (from_ + z.1.slot) []) (by
          have := slotsN_lt this
          rw [List.getD_eq_getElem?_getD, List.getElem?_eq_getElem (by omega)]; rfl)).len
        exact blocks_le hlen
    refine call (Contains_calls W2 z.1.blocks z.2 (Row.sli hbz) (by omega) (xx : Nat)) ?_
    rintro _ _ ⟨rfl, rfl⟩
    cases hct : z.1.blocks.any (fun y : Nat => ((xx : Nat) : Int) == (y : Int)) with
    | true =>
      have htw : twiceA S (xx : Nat) = true := by
        unfold twiceA
        exact List.any_eq_true.2 ⟨z.1, List.mem_of_getElem? hSj, hct⟩
      exact same W2 6 [] (twW.ext tW2) (by simp) (by rw [hadd, if_pos htw])
    | false =>
    refine ⟨_, B15.cell rfl, ?_⟩
    refine mapUpdate_busy (hM.tr tW2 (by simp)) z.1.slot fun o W3 u3 hM3 => ?_
    rw [usedM_set htake] at hM3
    have z3' := u3.size
    have hbuW : bu < W.heap.size := by omega
    have B15' : Blk W3 b15 (zcells z) 54 := B15.tr u3.tr (by simp; omega)
    have hw : IntKind.i64.wrap ((j : Int) + 1) = ((j + 1 : Nat) : Int) := by rw [w64 (by omega)]; omega
    have hinv : (j + 1 ≤ Z.length ∧ Tr [bu] w4 W3 ∧ IM W3 bu (usedM S (j + 1)) ∧ (∀ i s', i < j + 1 → S[i]? = some s' → (s'.blocks.any fun y : Nat => ((xx : Nat) : Int) == (y : Int)) = false)) := by
      refine ⟨hjl, (tW.trans tW2 (fun _ h => h) (fun _ h _ => by cases h)).same u3.tr, hM3, fun i s' hi hs' => ?_⟩
      by_cases hij : i = j
      · subst hij
        rw [hSj] at hs'
        obtain rfl := Option.some.inj hs'
        exact hct
      · exact hno i s' (by omega) hs'
    have hmu : Z.length - (j + 1) < Z.length - j := by omega
    have hat := atF_step (S := S) (owner := (ow : Nat)) hjS htake
    have hst := stF_step (S := S) (owner := (ow : Nat)) htake
    refine ⟨_, B15'.cell rfl, fun ho => ?_, fun ho => ?_⟩
    · have ho : (z.1.owner : Int) = (ow : Nat) := ho
      have hbz3 := Row.slice hbz
      obtain ⟨ab, cb, hzb⟩ := hbz3
      have hroom : roomA (ow : Nat) z.1 = decide (z.1.blocks.length < 6) := by unfold roomA; rw [decide_eq_true ho, Bool.true_and]
      have hstz : (decide ((z.1.owner : Int) = (ow : Nat)) && decide (z.1.stamp ≠ 0)) = decide (z.1.stamp ≠ 0) := by rw [decide_eq_true ho, Bool.true_and]
      rw [hstz] at hst
      rw [hroom] at hat
      have hpc : W3.cell? ⟨b15, 0 + 3, none⟩ = some (.slice ab z.1.blocks.length cb) := by rw [← hzb]; exact B15'.cell rfl
      -- what is known behind the tests
      have hs0 : ∀ b : Bool, stampedA (S.take (j + 1)) (ow : Nat) = b → some (Value.bool b) = some (Value.bool (stampedA (S.take (j + 1)) (ow : Nat))) := fun b hb => by rw [hb]
      have ha0 : ∀ b : Int, atF S (ow : Nat) (j + 1) = b → some (Value.int .i64 b) = some (Value.int .i64 (atF S (ow : Nat) (j + 1))) := fun b hb => by rw [hb]
      cases hsj : stampedA (S.take j) (ow : Nat) with
      | true =>
        rw [hsj, Bool.true_or] at hst
        refine ⟨fun hat0 => ⟨_, hpc, fun hl6 => ?_, fun hl6 => ?_⟩, fun hat0 => ?_⟩
        · rw [if_pos ⟨hat0, by simpa using (show z.1.blocks.length < 6 by omega)⟩] at hat
          exact ⟨_, hw, rfl, ⟨j + 1⟩, ⟨rfl, rfl, rfl, rfl, rfl, rfl, ha0 _ hat, hs0 _ hst, rfl, rfl, rfl, trivial⟩, hinv, hmu⟩
        · rw [if_neg (fun hh => by have := hh.2; simp at this; omega)] at hat
          exact ⟨_, hw, rfl, ⟨j + 1⟩, ⟨rfl, rfl, rfl, rfl, rfl, rfl, ha0 _ hat, hs0 _ hst, rfl, rfl, rfl, trivial⟩, hinv, hmu⟩
        · rw [if_neg (fun hh => hat0 hh.1)] at hat
          exact ⟨_, hw, rfl, ⟨j + 1⟩, ⟨rfl, rfl, rfl, rfl, rfl, rfl, ha0 _ hat, hs0 _ hst, rfl, rfl, rfl, trivial⟩, hinv, hmu⟩
      | false =>
        rw [hsj, Bool.false_or] at hst
        refine ⟨_, B15'.cell rfl, fun hs1 => ?_, fun hs1 => ?_⟩
        · rw [decide_eq_false (by have : ((z.1.stamp : Nat) : Int) = 0 := hs1; omega)] at hst
          refine ⟨fun hat0 => ⟨_, hpc, fun hl6 => ?_, fun hl6 => ?_⟩, fun hat0 => ?_⟩
          · rw [if_pos ⟨hat0, by simpa using (show z.1.blocks.length < 6 by omega)⟩] at hat
            exact ⟨_, hw, rfl, ⟨j + 1⟩, ⟨rfl, rfl, rfl, rfl, rfl, rfl, ha0 _ hat, hs0 _ hst, rfl, rfl, rfl, trivial⟩, hinv, hmu⟩
          · rw [if_neg (fun hh => by have := hh.2; simp at this; omega)] at hat
            exact ⟨_, hw, rfl, ⟨j + 1⟩, ⟨rfl, rfl, rfl, rfl, rfl, rfl, ha0 _ hat, hs0 _ hst, rfl, rfl, rfl, trivial⟩, hinv, hmu⟩
          · rw [if_neg (fun hh => hat0 hh.1)] at hat
            exact ⟨_, hw, rfl, ⟨j + 1⟩, ⟨rfl, rfl, rfl, rfl, rfl, rfl, ha0 _ hat, hs0 _ hst, rfl, rfl, rfl, trivial⟩, hinv, hmu⟩
        · rw [decide_eq_true (by have : ¬ ((z.1.stamp : Nat) : Int) = 0 := hs1; omega)] at hst
          refine ⟨fun hat0 => ⟨_, hpc, fun hl6 => ?_, fun hl6 => ?_⟩, fun hat0 => ?_⟩
          · rw [if_pos ⟨hat0, by simpa using (show z.1.blocks.length < 6 by omega)⟩] at hat
            exact ⟨_, hw, rfl, ⟨j + 1⟩, ⟨rfl, rfl, rfl, rfl, rfl, rfl, ha0 _ hat, hs0 _ hst, rfl, rfl, rfl, trivial⟩, hinv, hmu⟩
          · rw [if_neg (fun hh => by have := hh.2; simp at this; omega)] at hat
            exact ⟨_, hw, rfl, ⟨j + 1⟩, ⟨rfl, rfl, rfl, rfl, rfl, rfl, ha0 _ hat, hs0 _ hst, rfl, rfl, rfl, trivial⟩, hinv, hmu⟩
          · rw [if_neg (fun hh => hat0 hh.1)] at hat
            exact ⟨_, hw, rfl, ⟨j + 1⟩, ⟨rfl, rfl, rfl, rfl, rfl, rfl, ha0 _ hat, hs0 _ hst, rfl, rfl, rfl, trivial⟩, hinv, hmu⟩
    · have ho : ¬ (z.1.owner : Int) = (ow : Nat) := ho
      rw [if_neg (fun hh => by have := hh.2; unfold roomA at this; rw [decide_eq_false ho, Bool.false_and] at this; cases this)] at hat
      rw [decide_eq_false ho, Bool.false_and, Bool.or_false] at hst
      refine ⟨_, hw, rfl, ⟨j + 1⟩, ⟨rfl, rfl, rfl, rfl, rfl, rfl, ?_, ?_, rfl, rfl, rfl, trivial⟩, hinv, hmu⟩
      · show some (Value.int .i64 (atF S (ow : Nat) j)) = some (Value.int .i64 (atF S (ow : Nat) (j + 1)))
        rw [hat]
      · show some (Value.bool (stampedA (S.take j) (ow : Nat))) = some (Value.bool (stampedA (S.take (j + 1)) (ow : Nat)))
        rw [hst]
  · -- behind the loop
    obtain rfl : j = Z.length := by have : ¬ ((j : Nat) : Int) < (Z.length : Int) := hge; omega
    have htk : S.take Z.length = S := by rw [hlZ]; exact List.take_length
    have htw : twiceA S (xx : Nat) = false := by
      unfold twiceA
      refine any_take_false fun i s' hs' => hno i s' ?_ hs'
      have := (List.getElem?_eq_some_iff.1 hs').1
      omega
    rw [if_neg (by rw [htw]; decide)] at hadd
    have hM : IM W bu (usedM S Z.length) := hM
    have C5W : Blk W b5 lc 27 := C5.tr tW (by simp; omega)
    have hQW : QMem W p LS nev F := h.ext twW
    have hgW : Gl W := hg.ext twW
    have hatS : atF S (ow : Nat) Z.length = (match S.findIdx? (roomA (ow : Nat)) with | some a => (a : Int) | none => -1) := by
      unfold atF
      rw [htk]
      cases S.findIdx? (roomA ((ow : Nat) : Int)) <;> rfl
    cases hst : stampedA (S.take Z.length) ((ow : Nat) : Int) with
    | true =>
      rw [htk] at hst
      exact same W 4 [] twW (by simp) (by rw [hadd, if_pos hst])
    | false =>
    rw [htk] at hst
    rw [if_neg (by rw [hst]; decide)] at hadd
    -- a call of set
    have done : ∀ (W1 W2 : World) (slot : Nat) (prs : List (Nat × Nat)), Tr [] w W1 → prs.length ≤ 16 → R = (0, LS.set (from_ + slot) (lay (LS.getD (from_ + slot) []) prs)) → (∃ F', QMem W2 p (LS.set (from_ + slot) (lay (LS.getD (from_ + slot) []) prs)) (nev + prs.length + 2) F' ∧ Step W1 W2 F F') →
        Value.int .i64 0 = .int .i64 R.1 ∧ ∃ F' nev', QMem W2 p R.2 nev' F' ∧ Step w W2 F F' ∧ nev' ≤ nev + 20 := by
      rintro W1 W2 slot prs t hp hRe ⟨F', hQ, hs⟩
      rw [hRe]
      exact ⟨rfl, F', _, hQ, Step.of_ext t hs, by omega⟩
    refine ⟨fun h0 => ?_, fun h0 => ?_⟩
    · have h0 : 0 ≤ atF S (ow : Nat) Z.length := h0
      cases hfi : S.findIdx? (roomA ((ow : Nat) : Int)) with
      | none => rw [hfi] at hatS; rw [hatS] at h0; exact absurd h0 (by decide)
      | some ai =>
      rw [hfi] at hatS
      have hatS : atF S (ow : Nat) Z.length = (ai : Int) := hatS
      obtain ⟨hai, hroom, _⟩ := List.findIdx?_eq_some_iff_getElem.1 hfi
      have haz : ai < Z.length := by omega
      obtain ⟨z, hzd⟩ : ∃ z, z = Z[ai] := ⟨_, rfl⟩
      have hz : Z[ai]? = some z := by rw [hzd]; exact List.getElem?_eq_getElem haz
      have hzm := List.mem_of_getElem? hz
      have hSa : S[ai]? = some z.1 := by rw [← hZS, List.getElem?_map, hz]; rfl
      have hSd : S.getD ai ⟨0, 0, 0, []⟩ = z.1 := by rw [List.getD_eq_getElem?_getD, hSa]; rfl
      have hSg : S[ai] = z.1 := (List.getElem?_eq_some_iff.1 hSa).2
      rw [hSg] at hroom
      unfold roomA at hroom
      simp only [Bool.and_eq_true, decide_eq_true_eq] at hroom
      have hslot : z.1.slot < n := slotsN_lt (LS := LS) (from_ := from_) (by rw [← hS]; exact List.mem_of_getElem? hSa)
      have hopen : openA from_ n LS S (ow : Nat) (xx : Nat) = (0, LS.set (from_ + z.1.slot) (lay (LS.getD (from_ + z.1.slot) []) [(2 + z.1.blocks.length, xx)])) := by
        unfold openA
        rw [hfi]
        simp only [hSd]
        rfl
      rw [hopen] at hadd
      obtain ⟨g, cap', hv, _, _, hc⟩ := (Row.elem hZW.row).resolve_left (fun hh => by have := hh.2; omega)
      cases hv
      have hzb := hZW.blk z hzm
      obtain ⟨ab, cb, hzbv⟩ := Row.slice hzb
      have hgF : g ∉ F := fun hm => by have := (hsb g (in_sv rfl)).1; have := h.lt g hm; omega
      have hb5F : b5 ∉ F := fun hm => by have := h.lt b5 hm; omega
      have hzc := zcells_get hz hc
      have hc0 : W.cell? ⟨g, 0 + ai * 4 + 0, none⟩ = some (.int .i64 (z.1.slot : Nat)) := hzc 0 _ rfl
      have hc3 : W.cell? ⟨g, 0 + ai * 4 + 3, none⟩ = some (.slice ab z.1.blocks.length cb) := by rw [← hzbv]; exact hzc 3 _ rfl
      refine draw_rule cx_ok F (Plan.takes [0, 1, 2, 3, 4, 5, 6, 7, 8, 9, 10, 11, 12, 13, 14, 15] (.one true 16 (.one true 17 .done))) (by kernel_rfl) ?_
      intro W1 d
      have zd := d.tr.size
      refine ⟨lc, fun w' t => C5W.all.tr t hb5F, hl.len, ai, hatS, haz, _, fun w' t => t.cell hc0 hgF, ai, hatS, haz, _, fun w' t => t.cell hc3 hgF, ((2 + z.1.blocks.length : Nat) : Int), by rw [w64 (by omega)]; omega, _, rfl, ?_⟩
      refine ⟨⟨_, rfl, fun g2 W2 n2' => ⟨(d.tr.ext n2'.tr).of_ext, ?_⟩⟩, trivial⟩
      have en2 := n2'.num; have zn2 := n2'.size
      have tt2 : Tr [] W W2 := d.tr.ext n2'.tr
      have hcp : Cells W2 g2 0 (pcells [(2 + z.1.blocks.length, xx)]) := n2'.blk.all
      refine ⟨?_, trivial⟩
      have hws : LS[from_ + z.1.slot]? = some (LS.getD (from_ + z.1.slot) []) := by rw [List.getD_eq_getElem?_getD, List.getElem?_eq_getElem (by omega)]; rfl
      refine call (set_calls (hQW.ext tt2) (hgW.ext tt2) lc from_ z.1.slot hl.len hl.c3 hws [(2 + z.1.blocks.length, xx)] (by simp; omega) g2 0 1 hcp (fun hm => by have := hQW.lt g2 hm; omega) (by omega) (by show 1 ≤ 4096; decide) (by show nev + 1 + 2 ≤ _; omega)) ?_
      rintro _ W3 ⟨F3, hQ3, hs3⟩
      refine ⟨(tt2.of_ext).same hs3.tr, ?_⟩
      exact done W2 W3 z.1.slot [(2 + z.1.blocks.length, xx)] (twW.ext tt2) (by show 1 ≤ 16; decide) hadd ⟨F3, hQ3, hs3⟩
    · have h0 : ¬ 0 ≤ atF S (ow : Nat) Z.length := h0
      cases hfi : S.findIdx? (roomA ((ow : Nat) : Int)) with
      | some ai => rw [hfi] at hatS; rw [hatS] at h0; exact absurd (Int.natCast_nonneg ai) h0
      | none =>
      refine ⟨_, C5W.cell hl.c4, ?_⟩
      refine loop_rule cx_ok (fun (k : Nat) W1 => k ≤ n ∧ W = W1 ∧ ∀ i, i < k → usedA S (i : Nat) = true) (fun k : Nat => [(0, .pointer (some ⟨p, 0, none⟩)), (2, .int .i64 (ow : Nat)), (3, .int .i64 (xx : Nat)), (5, .pointer (some ⟨b5, 0, none⟩)), (11, .map (some bu)), (98, .int .i64 n), (99, .int .i64 k)]) (fun k => n - k) 0
        ⟨rfl, rfl, rfl, rfl, rfl, rfl, rfl, trivial⟩ ⟨by omega, rfl, fun i hi => by omega⟩ ?_
      rintro k _ ⟨hk, rfl, hu⟩
      refine ⟨fun hkn => ?_, fun hkn => ?_⟩
      · have hkn' : k < n := by omega
        refine lookup_used hM (k : Nat) (fun v hv => ?_) (fun hv => ?_)
        · have hus : usedA S (k : Nat) = true ∧ v = .bool true := by
            unfold usedM at hv
            rw [htk] at hv
            split at hv
            · exact ⟨by assumption, (Option.some.inj hv).symm⟩
            · cases hv
          obtain ⟨hus, rfl⟩ := hus
          refine ⟨((k + 1 : Nat) : Int), by rw [w64 (by omega)]; omega, ?_⟩
          refine ⟨rfl, k + 1, ⟨rfl, rfl, rfl, rfl, rfl, rfl, rfl, trivial⟩, ⟨by omega, rfl, fun i hi => ?_⟩, by omega⟩
          by_cases hik : i = k
          · subst hik; exact hus
          · exact hu i (by omega)
        · have hus : usedA S (k : Nat) = false := by
            unfold usedM at hv
            rw [htk] at hv
            split at hv
            · cases hv
            · simpa using (by assumption : ¬ usedA S (k : Nat) = true)
          have hfind : (List.range n).find? (fun k : Nat => !usedA S (k : Int)) = some k := by
            rw [List.find?_eq_some_iff_append]
            refine ⟨by simp [hus], List.range k, List.range' (k + 1) (n - k - 1), range_split k n hkn', fun i hi => ?_⟩
            rw [hu i (List.mem_range.1 hi)]; rfl
          have hopen : openA from_ n LS S (ow : Nat) (xx : Nat) = (0, LS.set (from_ + k) (lay (LS.getD (from_ + k) []) (freshA ow xx))) := by
            unfold openA
            rw [hfi]
            simp only [hfind]
            rfl
          rw [hopen] at hadd
          refine ⟨lc, C5W.all, hl.len, _, rfl, _, rfl, _, rfl, _, rfl, _, rfl, _, rfl, _, rfl, _, rfl, _, rfl, _, rfl, fun g2 W2 n2' => ?_⟩
          have en2 := n2'.num; have zn2 := n2'.size
          have hcp : Cells W2 g2 0 (pcells (freshA ow xx)) := n2'.blk.all
          have hws : LS[from_ + k]? = some (LS.getD (from_ + k) []) := by rw [List.getD_eq_getElem?_getD, List.getElem?_eq_getElem (by omega)]; rfl
          refine call (set_calls (hQW.ext n2'.tr) (hgW.ext n2'.tr) lc from_ k hl.len hl.c3 hws (freshA ow xx) (by simp [freshA]; omega) g2 0 9 hcp (fun hm => by have := hQW.lt g2 hm; omega) (by omega) (by show 9 ≤ 4096; decide) (by show nev + 9 + 2 ≤ _; omega)) ?_
          rintro _ W3 hQ3
          exact done W2 W3 k (freshA ow xx) (twW.ext n2'.tr) (by show 9 ≤ 16; decide) hadd hQ3
      · obtain rfl : k = n := by omega
        have hfind : (List.range k).find? (fun k : Nat => !usedA S (k : Int)) = none := by
          rw [List.find?_eq_none]
          intro i hi
          rw [hu i (List.mem_range.1 hi)]
          simp
        have hopen : openA from_ k LS S (ow : Nat) (xx : Nat) = (8, LS) := by
          unfold openA
          rw [hfi]
          simp only [hfind]
        rw [hopen] at hadd
        exact same W 8 [] twW (by simp) hadd

end

end Go.Proofs.YtlfolinjajjgjaaDoor
