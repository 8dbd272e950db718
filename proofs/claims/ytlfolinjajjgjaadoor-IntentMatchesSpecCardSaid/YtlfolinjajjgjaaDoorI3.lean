/- intent on a quiet memory: Read, Free, each, Stamp, Close. -/
import Derived.Test.YtlfolinjajjgjaaDoorI2
namespace Go.Proofs.YtlfolinjajjgjaaDoor
open Go.E

/-- The slots of a quiet memory. -/
def slotsN (LS : List (List Nat)) (from_ : Nat) : Nat → List Sl
  | 0 => []
  | n + 1 => slotsN LS from_ n ++ slotOf n (LS.getD (from_ + n) [])

theorem slotOf_len (i : Nat) (ws : List Nat) : (slotOf i ws).length ≤ 1 := by unfold slotOf; split <;> simp
theorem slotsN_len (LS : List (List Nat)) (from_ : Nat) : ∀ n, (slotsN LS from_ n).length ≤ n
  | 0 => by simp [slotsN]
  | n + 1 => by
    have := slotsN_len LS from_ n
    have := slotOf_len n (LS.getD (from_ + n) [])
    simp only [slotsN, List.length_append]
    omega
theorem slotsN_lt {LS : List (List Nat)} {from_ : Nat} : ∀ {n : Nat} {s : Sl}, s ∈ slotsN LS from_ n → s.slot < n
  | 0, s, h => by simp [slotsN] at h
  | n + 1, s, h => by
    simp only [slotsN, List.mem_append] at h
    rcases h with h | h
    · have := slotsN_lt h; omega
    · unfold slotOf at h
      split at h
      · simp at h
      · simp only [List.mem_singleton] at h
        rw [h]; show n < n + 1; omega

theorem slotsN_of {LS : List (List Nat)} {from_ : Nat} : ∀ {n : Nat} {s : Sl}, s ∈ slotsN LS from_ n → slotOf s.slot (LS.getD (from_ + s.slot) []) = [s]
  | 0, s, h => by simp [slotsN] at h
  | n + 1, s, h => by
    simp only [slotsN, List.mem_append] at h
    rcases h with h | h
    · exact slotsN_of h
    · have h' := h
      unfold slotOf at h'
      split at h'
      · simp at h'
      · rename_i h0
        simp only [List.mem_singleton] at h'
        have hs : s.slot = n := by rw [h']
        rw [hs]
        unfold slotOf
        rw [if_neg h0, h']

section
variable {w : World}

theorem shf_quiet {rows : List (Ln × Value)} {LS : List (List Nat)} (h : rows.map (·.1) = LS.map quiet) {from_ i : Nat} (hi : from_ + i < LS.length) : shf rows from_ i = some (LS.getD (from_ + i) []) := by
  obtain ⟨ws, hws⟩ : ∃ ws, LS[from_ + i]? = some ws := ⟨_, List.getElem?_eq_getElem hi⟩
  obtain ⟨v, hv⟩ := map_at h (i := from_ + i) (l := quiet ws) (by simp [hws])
  unfold shf
  rw [hv, List.getD_eq_getElem?_getD, hws]
  show shr (quiet ws, v) = some ws
  unfold shr Ln.shows
  show (fix ws (enc ws)).map (fun r => lay r.1 (List.take _ [])) = some ws
  rw [fix_enc]
  simp [lay]

theorem rd_quiet {rows : List (Ln × Value)} {LS : List (List Nat)} (h : rows.map (·.1) = LS.map quiet) {from_ : Nat} : ∀ n, from_ + n ≤ LS.length → rdTo (shf rows from_) n = some (slotsN LS from_ n) := by
  intro n
  induction n with
  | zero => intro _; rfl
  | succ n ih =>
    intro hn
    show (match rdTo (shf rows from_) n, shf rows from_ n with | some S, some ws => some (S ++ slotOf n ws) | _, _ => none) = _
    rw [ih (by omega), shf_quiet h (by omega)]
    rfl

/-- A layout's cells: the slots lie from from_ on, n of them. -/
structure LayC (lc : List Value) (from_ n : Nat) : Prop where
  len : lc.length = 8
  one : lc.all E.one = true
  c3 : lc[3]? = some (.int .i64 (from_ : Nat))
  c4 : lc[4]? = some (.int .i64 (n : Nat))

theorem QRead_calls {p nev : Nat} {LS : List (List Nat)} {F : List Nat} (h : QMem w p LS nev F) (hg : Gl w) {lc : List Value} {from_ n : Nat} (hl : LayC lc from_ n) (hfit : from_ + n ≤ LS.length) :
    Calls cx.P 11 #[.pointer (some ⟨p, 0, none⟩), .agg lc.toArray] w (Ret fun v w' => Tr [] w w' ∧ ∃ sv Z, v = .tuple #[sv, .int .i64 0] ∧ SlW w' sv Z ∧ Z.map (·.1) = slotsN LS from_ n ∧ ∀ b ∈ sblocks sv Z, w.heap.size ≤ b) := by
  obtain ⟨bl, bm, rows, evv, span, hm, hrows, rfl⟩ := h
  have hlen : rows.length = LS.length := by have := congrArg List.length hrows; simpa using this
  refine (Read_calls hm.toMemX hg lc from_ n hl.len hl.one hl.c3 hl.c4 (by omega)).mono fun e w' ⟨v, he, ht, hq⟩ => ⟨v, he, ht, ?_⟩
  rw [rd_quiet hrows n (by omega)] at hq
  exact hq

theorem Free_calls {p bl bm : Nat} {rows : List (Ln × Value)} {evv : Value} {span nev : Nat} (h : MemX w p bl bm rows evv span nev) (hg : Gl w) {lc : List Value} {from_ n : Nat} (hl : LayC lc from_ n) (hfit : from_ + n ≤ rows.length) (hn : n ≤ 4096) :
    Calls cx.P 23 #[.pointer (some ⟨p, 0, none⟩), .agg lc.toArray] w (Ret fun v w' => Tr [] w w' ∧ v = (match rdTo (shf rows from_) n with | some S => Value.tuple #[.int .i64 ((n : Int) - S.length), .int .i64 0] | none => .tuple #[.int .i64 0, .int .i64 9])) := by
  refine calls_body cx_ok (args := [.pointer (some ⟨p, 0, none⟩), .agg lc.toArray]) Tryd.func23 rfl 22 rfl rfl [.tmp 4, .tmp 5] rfl ?_
  intro b3 w1 n1
  have B3 : Blk w1 b3 lc 27 := n1.blk
  refine ⟨lc, B3.all, hl.len, ?_⟩
  refine call (Read_calls (h.ext n1.tr) (hg.ext n1.tr) lc from_ n hl.len hl.one hl.c3 hl.c4 hfit) ?_
  rintro v w2 ⟨t2, hq⟩
  cases hrd : rdTo (shf rows from_) n with
  | none =>
    rw [hrd] at hq
    have hq : v = .tuple #[.slice none 0 0, .int .i64 9] := hq
    subst hq
    refine ⟨fun h => absurd h (by decide), fun _ => ?_⟩
    exact ⟨n1.tr.ext t2, rfl⟩
  | some S =>
    rw [hrd] at hq
    obtain ⟨sv, Z, rfl, hZ, hZS, _⟩ := hq
    obtain ⟨a, c, rfl⟩ := Row.slice hZ.row
    have hlen : Z.length = S.length := by rw [← hZS]; simp
    have hSn : ∀ k S, rdTo (shf rows from_) k = some S → S.length ≤ k := by
      intro k
      induction k with
      | zero => intro S hS; simp [rdTo] at hS; subst hS; simp
      | succ k ih =>
        intro S hS
        unfold rdTo at hS
        split at hS
        · rename_i S1 ws1 h1 h2
          obtain rfl := Option.some.inj hS
          have := ih S1 h1
          have := slotOf_len k ws1
          simp only [List.length_append]
          omega
        · cases hS
    have := hSn n S hrd
    refine ⟨fun _ => ?_, fun h => absurd rfl h⟩
    refine ⟨_, (B3.ext t2).cell hl.c4, ((n : Int) - S.length), by rw [w64 (by omega), hlen], ?_⟩
    exact ⟨n1.tr.ext t2, rfl⟩

/-! each -/

/-- What 'each' leaves. -/
def eachF (from_ : Nat) (owner : Int) (prs : List (Nat × Nat)) (LS : List (List Nat)) (S : List Sl) : List (List Nat) :=
  S.foldl (fun LS s => if (s.owner : Int) = owner then LS.set (from_ + s.slot) (lay (LS.getD (from_ + s.slot) []) prs) else LS) LS

theorem eachF_len {from_ : Nat} {owner : Int} {prs : List (Nat × Nat)} : ∀ {S : List Sl} {LS : List (List Nat)}, (eachF from_ owner prs LS S).length = LS.length
  | [], LS => rfl
  | s :: r, LS => by
    show (eachF from_ owner prs _ r).length = _
    rw [eachF_len]
    dsimp only
    split <;> simp

theorem eachF_snoc {from_ : Nat} {owner : Int} {prs : List (Nat × Nat)} {S : List Sl} {LS : List (List Nat)} {s : Sl} : eachF from_ owner prs LS (S ++ [s]) =
    if (s.owner : Int) = owner then (eachF from_ owner prs LS S).set (from_ + s.slot) (lay ((eachF from_ owner prs LS S).getD (from_ + s.slot) []) prs) else eachF from_ owner prs LS S := by
  unfold eachF
  rw [List.foldl_append]
  rfl

structure ES where
  j : Nat
  nev : Nat
  F : List Nat

theorem zcells_get {Z : List (Sl × Value)} {j : Nat} {z : Sl × Value} (h : Z[j]? = some z) {W : World} {g : Nat} (hc : Cells W g 0 (Z.flatMap zcells)) : Cells W g (0 + j * 4) (zcells z) := fun i v hv => by
  have := hc _ _ (fm_get (f := zcells) (k := 4) (fun _ _ => rfl) h hv)
  rw [show 0 + j * 4 + i = 0 + (j * 4 + i) by omega]
  exact this

set_option maxHeartbeats 1000000 in
theorem each_calls {p nev : Nat} {LS : List (List Nat)} {F : List Nat} (h : QMem w p LS nev F) (hg : Gl w) {lc : List Value} {from_ n : Nat} (hl : LayC lc from_ n) (hfit : from_ + n ≤ LS.length) (owner : Int) (prs : List (Nat × Nat)) (hprs : prs.length ≤ 16) (hnev : nev ≤ 274877906944)
    (f : Nat) (cap : List Value) (hf : (Nat.ble cx.lo f && Nat.blt f cx.hi) = true) (boxes : List (Nat × List Value × Nat)) (hbox : ∀ x ∈ boxes, Blk w x.1 x.2.1 x.2.2 ∧ x.1 ∉ F)
    (hdo : ∀ W LS' nev' F' slot ws, QMem W p LS' nev' F' → Gl W → (∀ x ∈ boxes, Blk W x.1 x.2.1 x.2.2 ∧ x.1 ∉ F') → LS'[from_ + slot]? = some ws → nev' ≤ 549755813000 →
      Calls cx.P f ([Value.int .i64 (slot : Nat)] ++ cap).toArray W (Ret fun _ W' => ∃ F'', QMem W' p (LS'.set (from_ + slot) (lay ws prs)) (nev' + prs.length + 2) F'' ∧ Step W W' F' F'')) :
    Calls cx.P 51 #[.pointer (some ⟨p, 0, none⟩), .agg lc.toArray, .int .i64 owner, .func (.func f) #[] cap.toArray] w
      (Ret fun v w' => v = .int .i64 (if (slotsN LS from_ n).any (fun s => decide ((s.owner : Int) = owner)) then 0 else 5) ∧ ∃ F' nev', QMem w' p (eachF from_ owner prs LS (slotsN LS from_ n)) nev' F' ∧ Step w w' F F' ∧ nev' ≤ nev + n * 18) := by
  have hsml := h.small
  refine calls_body cx_ok (args := [.pointer (some ⟨p, 0, none⟩), .agg lc.toArray, .int .i64 owner, .func (.func f) #[] cap.toArray]) Tryd.func51 rfl 38 rfl rfl [.tmp 8] rfl ?_
  intro b5 w1 n1
  have B5 : Blk w1 b5 lc 27 := n1.blk
  refine ⟨lc, B5.all, hl.len, ?_⟩
  refine call (QRead_calls (h.ext n1.tr) (hg.ext n1.tr) hl hfit) ?_
  rintro _ w2 ⟨t2, sv, Z, rfl, hZ, hZS, hbs⟩
  have t12 : Tr [] w w2 := n1.tr.ext t2
  have z1 := n1.size
  refine ⟨fun _ => ?_, fun h => absurd rfl h⟩
  obtain ⟨S, hS⟩ : ∃ S, S = slotsN LS from_ n := ⟨_, rfl⟩
  rw [← hS] at hZS ⊢
  have hSl := slotsN_len LS from_ n
  rw [← hS] at hSl
  have hlZ : Z.length = S.length := by rw [← hZS]; simp
  obtain ⟨a, c, hsv⟩ := Row.slice hZ.row
  have hrow := Row.elem hZ.row
  subst hsv
  refine loop_rule cx_ok (fun (s : ES) W => s.j ≤ Z.length ∧ QMem W p (eachF from_ owner prs LS (S.take s.j)) s.nev s.F ∧ Step w W F s.F ∧ s.nev ≤ nev + s.j * 18 ∧ SlW W (.slice a Z.length c) Z ∧ (∀ b ∈ sblocks (.slice a Z.length c) Z, b ∉ s.F) ∧ (∀ x ∈ boxes, Blk W x.1 x.2.1 x.2.2 ∧ x.1 ∉ s.F))
    (fun s => [(2, .int .i64 owner), (3, .func (.func f) #[] cap.toArray), (22, .slice a Z.length c), (23, .int .i64 Z.length), (24, .int .i64 s.j), (10, .int .i64 (if (S.take s.j).any (fun s => decide ((s.owner : Int) = owner)) then 0 else 5))]) (fun s => Z.length - s.j)
    ⟨0, nev, F⟩ ⟨rfl, rfl, rfl, rfl, rfl, rfl, trivial⟩ ⟨by show 0 ≤ _; omega, h.ext t12, ⟨t12.of_ext, fun b hb => .inl hb⟩, by show nev ≤ nev + 0 * 18; omega, hZ, fun b hb hm => ?_, fun x hx => ⟨(hbox x hx).1.ext t12, (hbox x hx).2⟩⟩ ?_
  · have := hbs b hb
    have := h.lt b hm
    omega
  rintro ⟨j, nv, Fj⟩ W ⟨hj, hQ, hs, hnv, hZW, hbF, hbx⟩
  have hj : j ≤ Z.length := hj
  have hnv : nv ≤ nev + j * 18 := hnv
  refine ⟨fun hlt => ?_, fun hge => ?_⟩
  · have hjl : j < Z.length := by have : ((j : Nat) : Int) < (Z.length : Int) := hlt; omega
    have hz : Z[j]? = some Z[j] := List.getElem?_eq_getElem hjl
    obtain ⟨z, hzd⟩ : ∃ z, z = Z[j] := ⟨_, rfl⟩
    rw [← hzd] at hz
    rcases hrow with ⟨hv, hn0⟩ | ⟨g, cap', hv, hn1, hn2, _⟩
    · omega
    · cases hv
      obtain ⟨_, _, hv', _, _, hc⟩ := (Row.elem hZW.row).resolve_left (fun hh => by have := hh.2; omega)
      cases hv'
      refine ⟨j, rfl, hjl, zcells z, zcells_get hz hc, rfl, ?_⟩
      intro b12 W1 n12
      have e12 := n12.num; have z12 := n12.size
      have h1z : (zcells z).all E.one = true := by
        have := Row.one (hZW.blk z (List.mem_of_getElem? hz))
        simp only [zcells, List.all_cons, this, List.all_nil]
        rfl
      refine ⟨_, _, n12.blk, rfl, by show 0 + 4 ≤ 4; decide, h1z, fun W2 u2 => ?_⟩
      have B12 : Blk W2 b12 (zcells z) 54 := Upd.whole u2 rfl rfl
      have t2' : Tr [] W W2 := u2.ext n12.tr (by omega)
      have hSj : S[j]? = some z.1 := by rw [← hZS, List.getElem?_map, hz]; rfl
      have hjS : j < S.length := by omega
      have htake : S.take (j + 1) = S.take j ++ [z.1] := by
        rw [List.take_succ_eq_append_getElem hjS]
        congr 2
        exact (List.getElem?_eq_some_iff.1 hSj).2
      have hmem : z.1 ∈ slotsN LS from_ n := by rw [← hS]; exact List.mem_of_getElem? hSj
      have hslot := slotsN_lt hmem
      have hany : (S.take (j + 1)).any (fun s => decide ((s.owner : Int) = owner)) = ((S.take j).any (fun s => decide ((s.owner : Int) = owner)) || decide ((z.1.owner : Int) = owner)) := by rw [htake]; simp
      refine ⟨_, B12.cell rfl, fun he => ?_, fun hne => ?_⟩
      · have he : (z.1.owner : Int) = owner := he
        refine ⟨_, B12.cell rfl, ?_⟩
        have hLl : (eachF from_ owner prs LS (S.take j)).length = LS.length := eachF_len
        have hw0 : (eachF from_ owner prs LS (S.take j))[from_ + z.1.slot]? = some ((eachF from_ owner prs LS (S.take j)).getD (from_ + z.1.slot) []) := by
          rw [List.getD_eq_getElem?_getD, List.getElem?_eq_getElem (by omega)]; rfl
        have gW2 : Gl W2 := (hg.tr hs.tr fun b hb => h.ge b hb).ext t2'
        have hcall := hdo W2 _ nv Fj z.1.slot _ (hQ.ext t2') gW2 (fun x hx => ⟨(hbx x hx).1.ext t2', (hbx x hx).2⟩) hw0 (by omega)
        have hK : ∀ K : Value → World → Prop, (∀ v W', (∃ F'', QMem W' p ((eachF from_ owner prs LS (S.take j)).set (from_ + z.1.slot) (lay ((eachF from_ owner prs LS (S.take j)).getD (from_ + z.1.slot) []) prs)) (nv + prs.length + 2) F'' ∧ Step W2 W' Fj F'') → K v W') →
            callG cx f ([] ++ ([.int .i64 (z.1.slot : Nat)] ++ cap)) W2 K := by
          intro K hK
          unfold callG
          rw [hf]
          exact call hcall hK
        refine hK _ ?_
        rintro _ W3 ⟨F3, hQ3, hs3⟩
        refine ⟨((j + 1 : Nat) : Int), by show IntKind.i64.wrap ((j : Int) + 1) = _; rw [w64 (by omega)]; omega, ?_⟩
        have hany' : (S.take (j + 1)).any (fun s => decide ((s.owner : Int) = owner)) = true := by rw [hany, decide_eq_true he, Bool.or_true]
        have hlt2 : ∀ b ∈ sblocks (.slice (some ⟨g, 0, none⟩) Z.length c) Z, b < W2.heap.size := fun b hb => Nat.lt_of_lt_of_le (hZW.lt b hb) t2'.size
        refine ⟨rfl, ⟨j + 1, nv + prs.length + 2, F3⟩, ⟨rfl, rfl, rfl, rfl, rfl, ?_, trivial⟩, ⟨by show j + 1 ≤ _; omega, ?_, hs.trans (Step.of_ext t2' hs3), by show nv + prs.length + 2 ≤ nev + (j + 1) * 18; omega, (hZW.ext t2').tr hs3.tr fun b hb hm => hbF b hm hb, fun b hb hm => ?_, fun x hx => ⟨(hbx x hx).1.ext t2' |>.tr hs3.tr (hbx x hx).2, fun hm => ?_⟩⟩, by show Z.length - (j + 1) < Z.length - j; omega⟩
        · show some (Value.int .i64 0) = some (.int .i64 (if (S.take (j + 1)).any _ then 0 else 5))
          rw [hany']; rfl
        · show QMem W3 p (eachF from_ owner prs LS (S.take (j + 1))) _ _
          rw [htake, eachF_snoc, if_pos he]
          exact hQ3
        · rcases hs3.sub b hm with hm | hm
          · exact hbF b hb hm
          · have := hlt2 b hb; omega
        · rcases hs3.sub x.1 hm with hm | hm
          · exact (hbx x hx).2 hm
          · have := (hbx x hx).1.lt; have := t2'.size; omega
      · have hne : ¬ (z.1.owner : Int) = owner := hne
        refine ⟨((j + 1 : Nat) : Int), by show IntKind.i64.wrap ((j : Int) + 1) = _; rw [w64 (by omega)]; omega, ?_⟩
        have hany' : (S.take (j + 1)).any (fun s => decide ((s.owner : Int) = owner)) = (S.take j).any (fun s => decide ((s.owner : Int) = owner)) := by rw [hany, decide_eq_false hne, Bool.or_false]
        refine ⟨rfl, ⟨j + 1, nv, Fj⟩, ⟨rfl, rfl, rfl, rfl, rfl, ?_, trivial⟩, ⟨by show j + 1 ≤ _; omega, ?_, hs.ext t2', by show nv ≤ nev + (j + 1) * 18; omega, hZW.ext t2', hbF, fun x hx => ⟨(hbx x hx).1.ext t2', (hbx x hx).2⟩⟩, by show Z.length - (j + 1) < Z.length - j; omega⟩
        · show some (Value.int .i64 (if (S.take j).any _ then 0 else 5)) = some (.int .i64 (if (S.take (j + 1)).any _ then 0 else 5))
          rw [hany']
        · show QMem W2 p (eachF from_ owner prs LS (S.take (j + 1))) _ _
          rw [htake, eachF_snoc, if_neg hne]
          exact hQ.ext t2'
  · obtain rfl : j = Z.length := by have : ¬ ((j : Nat) : Int) < (Z.length : Int) := hge; omega
    have htk : S.take Z.length = S := by rw [hlZ]; exact List.take_length
    have hQ : QMem W p (eachF from_ owner prs LS (S.take Z.length)) nv Fj := hQ
    rw [htk] at hQ
    refine ⟨?_, Fj, nv, hQ, hs, by have := Nat.mul_le_mul_right 18 (show Z.length ≤ n by omega); omega⟩
    show Value.int .i64 (if (S.take Z.length).any _ then 0 else 5) = _
    rw [htk]

end

end Go.Proofs.YtlfolinjajjgjaaDoor
