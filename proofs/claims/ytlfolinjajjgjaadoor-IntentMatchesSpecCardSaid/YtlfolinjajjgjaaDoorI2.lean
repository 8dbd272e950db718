/- intent.set, on a memory of which nothing is pending. -/
import Derived.Test.YtlfolinjajjgjaaDoorI1
namespace Go.Proofs.YtlfolinjajjgjaaDoor
open Go.E

def quiet (ws : List Nat) : Ln := ⟨ws, enc ws, [], 0⟩

theorem quiet_ok {ws : List Nat} (h : Line8 ws) : (quiet ws).Ok := ⟨h, enc_lt ws, by simp [quiet], by simp [quiet]⟩

/-- A memory of which nothing is pending, and whose codes are right. -/
def QMem (w : World) (p : Nat) (LS : List (List Nat)) (nev : Nat) (F : List Nat) : Prop := ∃ bl bm rows evv span, MemW w p bl bm rows evv span nev ∧ rows.map (·.1) = LS.map quiet ∧ F = foot p bl bm rows evv

theorem QMem.ext {w w' : World} {p : Nat} {LS : List (List Nat)} {nev : Nat} {F : List Nat} (h : QMem w p LS nev F) (t : Tr [] w w') : QMem w' p LS nev F := by
  obtain ⟨bl, bm, rows, evv, span, h1, h2, h3⟩ := h
  exact ⟨bl, bm, rows, evv, span, h1.ext t, h2, h3⟩

theorem QMem.lt {w : World} {p : Nat} {LS : List (List Nat)} {nev : Nat} {F : List Nat} (h : QMem w p LS nev F) : ∀ b ∈ F, b < w.heap.size := by
  obtain ⟨bl, bm, rows, evv, span, h1, h2, rfl⟩ := h
  exact h1.foot_lt
theorem QMem.ge {w : World} {p : Nat} {LS : List (List Nat)} {nev : Nat} {F : List Nat} (h : QMem w p LS nev F) : ∀ b ∈ F, 3 ≤ b := by
  obtain ⟨bl, bm, rows, evv, span, h1, h2, rfl⟩ := h
  exact h1.ge

theorem map_at {rows : List (Ln × Value)} {L : List Ln} (h : rows.map (·.1) = L) {i : Nat} {l : Ln} (hl : L[i]? = some l) : ∃ v, rows[i]? = some (l, v) := by
  rw [← h, List.getElem?_map] at hl
  obtain ⟨r, hr, rfl⟩ := Option.map_eq_some_iff.1 hl
  exact ⟨r.2, hr⟩

theorem QMem.line8 {w : World} {p : Nat} {LS : List (List Nat)} {nev : Nat} {F : List Nat} (h : QMem w p LS nev F) {i : Nat} {ws : List Nat} (hi : LS[i]? = some ws) : Line8 ws := by
  obtain ⟨bl, bm, rows, evv, span, h1, h2, rfl⟩ := h
  obtain ⟨v, hv⟩ := map_at h2 (i := i) (l := quiet ws) (by simp [hi])
  exact (h1.ok _ (List.mem_of_getElem? hv)).ws

theorem QMem.small {w : World} {p : Nat} {LS : List (List Nat)} {nev : Nat} {F : List Nat} (h : QMem w p LS nev F) : LS.length ≤ 4096 := by
  obtain ⟨bl, bm, rows, evv, span, h1, h2, rfl⟩ := h
  have := congrArg List.length h2
  simp only [List.length_map] at this
  have := h1.small
  omega

def pending (ws : List Nat) (ps : List (Nat × Nat)) : Ln := ⟨ws, enc ws, ps, 0⟩

theorem settle_quiet (ws : List Nat) : (quiet ws).settle (quiet ws).mark = quiet ws := by
  unfold Ln.settle
  exact if_pos rfl

theorem settle_pending (ws : List Nat) (ps : List (Nat × Nat)) : (pending ws ps).flush.settle (pending ws ps).flush.mark = quiet (lay ws ps) := by
  unfold Ln.settle
  split
  · rename_i h
    have : ps = [] := List.eq_nil_of_length_eq_zero h
    subst this
    rfl
  · have hs : (pending ws ps).flush.shown (pending ws ps).flush.mark = lay ws ps := by
      unfold Ln.shown Ln.shows
      show ((fix ws (enc ws)).map fun r => lay r.1 (ps.take ps.length)).getD zeros8 = _
      rw [fix_enc, List.take_length]
      rfl
    rw [hs]
    show Ln.mk (lay ws ps) (enc (lay ws ps)) (ps.drop ps.length) (ps.length - ps.length) = _
    simp [quiet]

section
variable {w : World}

structure SS where
  j : Nat
  rows : List (Ln × Value)
  evv : Value

set_option maxHeartbeats 1000000 in
theorem set_calls {p nev : Nat} {LS : List (List Nat)} {F : List Nat} (h : QMem w p LS nev F) (hg : Gl w) (lc : List Value) (from_ slot : Nat) (hlc : lc.length = 8) (h3 : lc[3]? = some (.int .i64 (from_ : Nat)))
    {ws : List Nat} (hws : LS[from_ + slot]? = some ws) (prs : List (Nat × Nat)) (hprs : ∀ q ∈ prs, q.1 < 8 ∧ q.2 < 2 ^ 40) (g o c : Nat) (hgc : Cells w g o (pcells prs)) (hgF : g ∉ F) (hgl : g < w.heap.size) (hpl : prs.length ≤ 4096) (hnev : nev + prs.length + 2 ≤ 549755813888) :
    Calls cx.P 50 #[.pointer (some ⟨p, 0, none⟩), .agg lc.toArray, .int .i64 (slot : Nat), .slice (some ⟨g, o, none⟩) prs.length c] w
      (Ret fun _ w' => ∃ F', QMem w' p (LS.set (from_ + slot) (lay ws prs)) (nev + prs.length + 2) F' ∧ Step w w' F F') := by
  obtain ⟨bl, bm, rows, evv, span, hm, hrows, rfl⟩ := h
  have hsml := hm.small
  have hi : from_ + slot < LS.length := (List.getElem?_eq_some_iff.1 hws).1
  have hlen : rows.length = LS.length := by have := congrArg List.length hrows; simpa using this
  obtain ⟨v0, hv0⟩ := map_at hrows (i := from_ + slot) (l := quiet ws) (by simp [hws])
  have h8 : Line8 ws := (hm.ok _ (List.mem_of_getElem? hv0)).ws
  refine calls_body_m cx_ok (args := [.pointer (some ⟨p, 0, none⟩), .agg lc.toArray, .int .i64 (slot : Nat), .slice (some ⟨g, o, none⟩) prs.length c]) Tryd.func50 rfl 34 rfl rfl [] rfl ?_
  intro b5 w1 n1
  have e1 := n1.num; have z1 := n1.size
  have B5 : Blk w1 b5 lc 27 := n1.blk
  refine ⟨_, B5.cell h3, ((from_ + slot : Nat) : Int), by rw [w64 (by omega)]; omega, ?_⟩
  have hm1 := hm.ext n1.tr
  refine loop_rule cx_ok (fun (s : SS) W => s.j ≤ prs.length ∧ MemW W p bl bm s.rows s.evv span (nev + s.j) ∧ s.rows.map (·.1) = (LS.map quiet).set (from_ + slot) (pending ws (prs.take s.j)) ∧ Step w W (foot p bl bm rows evv) (foot p bl bm s.rows s.evv))
    (fun s => [(0, .pointer (some ⟨p, 0, none⟩)), (8, .int .i64 (from_ + slot : Nat)), (18, .slice (some ⟨g, o, none⟩) prs.length c), (19, .int .i64 prs.length), (20, .int .i64 s.j)]) (fun s => prs.length - s.j) ⟨0, rows, evv⟩ ⟨rfl, rfl, rfl, rfl, rfl, trivial⟩
    ⟨by show 0 ≤ _; omega, hm1, ?_, ⟨n1.tr.of_ext, fun b hb => .inl hb⟩⟩ ?_
  · have : pending ws (prs.take 0) = quiet ws := by simp [pending, quiet]
    show rows.map (·.1) = (LS.map quiet).set (from_ + slot) (pending ws (prs.take 0))
    rw [this, hrows]
    apply List.ext_getElem?
    intro k
    rw [List.getElem?_set]
    split
    · rename_i hk
      subst hk
      have : LS[from_ + slot] = ws := (List.getElem?_eq_some_iff.1 hws).2
      simp [hi, this]
    · rfl
  rintro ⟨j, R, ev⟩ W ⟨hj, hmW, hR, hs⟩
  have gW : Gl W := hg.tr hs.tr fun b hb => hm.ge b hb
  have hj : j ≤ prs.length := hj
  have hset : ((LS.map quiet).set (from_ + slot) (pending ws (prs.take j)))[from_ + slot]? = some (pending ws (prs.take j)) := by simp [hi]
  obtain ⟨v, hv⟩ := map_at hR hset
  have hv : R[from_ + slot]? = some (pending ws (prs.take j), v) := hv
  have hmW : MemW W p bl bm R ev span (nev + j) := hmW
  refine ⟨fun hlt => ?_, fun hge => ?_⟩
  · have hjl : j < prs.length := by have : ((j : Nat) : Int) < (prs.length : Int) := hlt; omega
    have hq : prs[j]? = some prs[j] := List.getElem?_eq_getElem hjl
    obtain ⟨hc0, hc1⟩ := pcells_get hq
    have hqok := hprs _ (List.mem_of_getElem? hq)
    refine ⟨j, rfl, hjl, [.int .i64 (prs[j].1 : Nat), .int .i64 (prs[j].2 : Nat)], ?_, rfl, ?_⟩
    · intro x u hx
      refine hs.tr.cell ?_ hgF
      rcases x with _ | _ | x
      · simp only [List.getElem?_cons_zero, Option.some.injEq] at hx
        subst hx
        exact hgc _ _ hc0
      · simp only [Nat.zero_add, List.getElem?_cons_succ, List.getElem?_cons_zero, Option.some.injEq] at hx
        subst hx
        have := hgc _ _ hc1
        rw [show o + j * 2 + (0 + 1) = o + (j * 2 + 1) by omega]; exact this
      · simp at hx
    intro b10 W1 n10
    have e10 := n10.num; have z10 := n10.size
    refine ⟨_, _, n10.blk, rfl, by show 0 + 2 ≤ 2; decide, rfl, fun W2 u2 => ?_⟩
    have B10 : Blk W2 b10 [.int .i64 (prs[j].1 : Nat), .int .i64 (prs[j].2 : Nat)] 109 := u2.blk
    have t2 : Tr [] W W2 := u2.ext n10.tr (by omega)
    refine ⟨((8 * (from_ + slot) : Nat) : Int), by rw [w64 (by omega)]; omega, 0, rfl, by decide, _, B10.cell rfl, ((8 * (from_ + slot) + prs[j].1 : Nat) : Int), by rw [w64 (by omega)]; omega, 1, rfl, by decide, _, B10.cell rfl, ?_⟩
    have hm2 := hmW.ext t2
    have hst : (chk (pending ws (prs.take j)).ws (pending ws (prs.take j)).code).state ≠ 2 := by
      show (chk ws (enc ws)).state ≠ 2
      rw [chk_enc]; decide
    refine call (Store_calls hm2 (gW.ext t2) (by omega) (from_ + slot) prs[j].1 prs[j].2 hqok.1 hqok.2 hv hst (by show (prs.take j).length ≤ _; rw [List.length_take]; omega)) ?_
    rintro _ W3 ⟨rfl, v', ev', hm3, hs3⟩
    refine ⟨((j + 1 : Nat) : Int), by show IntKind.i64.wrap ((j : Int) + 1) = _; rw [w64 (by omega)]; omega, ?_⟩
    refine ⟨rfl, ⟨j + 1, R.set (from_ + slot) ((pending ws (prs.take j)).put prs[j].1 prs[j].2, v'), ev'⟩, ⟨rfl, rfl, rfl, rfl, rfl, trivial⟩, ⟨by show j + 1 ≤ _; omega, hm3, ?_, hs.trans (Step.of_ext t2 hs3)⟩, by show prs.length - (j + 1) < prs.length - j; omega⟩
    show (R.set (from_ + slot) _).map (·.1) = _
    rw [List.map_set, hR, List.set_set]
    congr 1
    show Ln.mk ws (enc ws) (prs.take j ++ [(prs[j].1, prs[j].2)]) 0 = Ln.mk ws (enc ws) (prs.take (j + 1)) 0
    rw [List.take_succ_eq_append_getElem hjl]
  · obtain rfl : j = prs.length := by have : ¬ ((j : Nat) : Int) < (prs.length : Int) := hge; omega
    rw [List.take_length] at hv hR
    refine CallDP.imp (callsD_body cx_ok (args := [.pointer (some ⟨p, 0, none⟩), .int .i64 (from_ + slot : Nat)]) Tryd.func75 rfl 29 rfl rfl [.tmp 4] rfl (Flush_body hmW (by omega) (from_ + slot) hv)) ?_
    rintro _ W1 ⟨rfl, ev1, hm1', hs1⟩
    obtain ⟨R1, hR1⟩ : ∃ R1, R1 = R.set (from_ + slot) ((pending ws prs).flush, v) := ⟨_, rfl⟩
    have gW1 : Gl W1 := gW.tr hs1.tr fun b hb => hmW.ge b hb
    have hR1m : R1.map (·.1) = (LS.map quiet).set (from_ + slot) (pending ws prs).flush := by
      rw [hR1, List.map_set]
      show (R.map (·.1)).set _ _ = _
      rw [show R.map (·.1) = _ from hR, List.set_set]
    have hR1p : ∀ r ∈ R1, r.1.pend.length ≤ 1099511627776 := by
      intro r hr
      have : r.1 ∈ R1.map (·.1) := List.mem_map.2 ⟨r, hr, rfl⟩
      rw [hR1m] at this
      rcases List.mem_or_eq_of_mem_set this with h | h
      · obtain ⟨x, _, hx⟩ := List.mem_map.1 h
        rw [← hx]; simp [quiet]
      · rw [h]; show prs.length ≤ _; omega
    rw [← hR1] at hm1' hs1
    refine CallDP.imp (callsD_body cx_ok (args := [.pointer (some ⟨p, 0, none⟩)]) Tryd.func74 rfl 26 rfl rfl [] rfl (Fence_body hm1' gW1 (by omega) hR1p)) ?_
    rintro _ W2 ⟨R2, ev2, hR2, hm2, hs2⟩
    refine ⟨foot p bl bm R2 ev2, ⟨bl, bm, R2, ev2, span, hm2, ?_, rfl⟩, (hs.trans hs1).trans hs2⟩
    rw [hR2]
    have : R1.map (fun r => r.1.settle r.1.mark) = (R1.map (·.1)).map (fun l => l.settle l.mark) := by rw [List.map_map]; rfl
    rw [this, hR1m, List.map_set, settle_pending, List.map_map, List.map_set]
    congr 1

end

end Go.Proofs.YtlfolinjajjgjaaDoor
