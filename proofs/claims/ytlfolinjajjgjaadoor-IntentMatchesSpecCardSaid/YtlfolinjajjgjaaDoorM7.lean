/- Contract of Fence. -/
import Derived.Test.YtlfolinjajjgjaaDoorM6
namespace Go.Proofs.YtlfolinjajjgjaaDoor
open Go.E

theorem busy_some {rows : List (Ln × Value)} {k : Int} {v : Value} (h : busyM rows k = some v) : ∃ i r, k = ((i : Nat) : Int) ∧ rows[i]? = some r ∧ r.1.pend ≠ [] := by
  rcases k with n | n
  · unfold busyM at h
    dsimp only at h
    split at h
    · rename_i r hr
      split at h
      · cases h
      · rename_i hp
        exact ⟨n, r, rfl, hr, hp⟩
    · cases h
  · cases h

theorem busy_iff {rows : List (Ln × Value)} {i : Nat} {r : Ln × Value} (hr : rows[i]? = some r) : busyM rows (i : Nat) ≠ none ↔ r.1.pend ≠ [] := by
  show busyM rows (Int.ofNat i) ≠ none ↔ _
  unfold busyM
  simp only [hr]
  split <;> simp_all

theorem settle_none {l : Ln} (h : l.Ok) (hp : l.pend = []) : l.settle l.mark = l := by
  have := h.mark
  rw [hp] at this
  have h0 : l.mark = 0 := by simpa using this
  unfold Ln.settle
  rw [if_pos h0]

section
variable {w : World} {p bl bm : Nat} {rows : List (Ln × Value)} {evv : Value} {span nev : Nat}

/-- The state of the loop: the rows now, which keys are to come, how many at most. -/
structure FS where
  rows : List (Ln × Value)
  left : Int → Prop
  cnt : Nat

structure FI (w : World) (p bl bm it : Nat) (rows : List (Ln × Value)) (evv : Value) (span nev : Nat) (s : FS) (W : World) : Prop where
  mem : MemX W p bl bm s.rows evv span nev
  ir : IR W bm it (busyM s.rows) s.left s.cnt
  step : Step w W (foot p bl bm rows evv) (foot p bl bm s.rows evv)
  len : s.rows.length = rows.length
  rel : ∀ i r0, rows[i]? = some r0 → ∃ r, s.rows[i]? = some r ∧ (s.left ((i : Nat) : Int) → r.1 = r0.1) ∧ (¬ s.left ((i : Nat) : Int) → r.1 = r0.1.settle r0.1.mark)

set_option maxHeartbeats 1000000 in
theorem Fence_body (h : MemW w p bl bm rows evv span nev) (hg : Gl w) (hnev : nev < 549755813888) (hsm : ∀ r ∈ rows, r.1.pend.length ≤ 1099511627776) :
    wpC cx none 26 Tryd.f74.body.get! (BodyQ cx [] fun _ w' => ∃ rows' evv', rows'.map (·.1) = rows.map (fun r => r.1.settle r.1.mark) ∧ MemW w' p bl bm rows' evv' span (nev + 1) ∧ Step w w' (foot p bl bm rows evv) (foot p bl bm rows' evv'))
      (argsEnv 0 [.pointer (some ⟨p, 0, none⟩)]) [] w := by
  obtain ⟨n1, n2, n3⟩ := h.ne
  refine ⟨_, h.head.cell rfl, ?_⟩
  refine map_range cx_ok (x := ⟨1, 8, false, [.map none], .map 3 4⟩) rfl rfl h.busy fun it o w1 cnt n1' hir => ?_
  have e1 := n1'.num; have z1 := n1'.size
  have hlt := h.foot_lt
  have hitbl : it ≠ bl := by have := hlt bl in_bl; omega
  have hitp : it ≠ p := by have := hlt p in_p; omega
  have hitbm : it ≠ bm := by have := h.bmlt; omega
  refine loop_rule cx_ok (fun s W => FI w p bl bm it rows evv span nev s W ∧ it < W.heap.size ∧ it ∉ foot p bl bm s.rows evv) (fun _ => [(0, .pointer (some ⟨p, 0, none⟩)), (7, .pointer (some ⟨it, 0, none⟩))]) (fun s => s.cnt) ⟨rows, fun k => busyM rows k ≠ none, cnt⟩ ⟨rfl, rfl, trivial⟩
    ⟨⟨h.toMemX.ext n1'.tr, hir, ⟨n1'.tr.of_ext, fun b hb => .inl hb⟩, rfl, fun i r0 hr0 => ⟨r0, hr0, fun _ => rfl, fun hl => ?_⟩⟩, by omega, fun hm => by have := hlt it hm; omega⟩ ?_
  · have hp : r0.1.pend = [] := Decidable.byContradiction fun hp => hl ((busy_iff hr0).2 hp)
    exact (settle_none (h.ok r0 (List.mem_of_getElem? hr0)) hp).symm
  rintro ⟨R, left, cnt⟩ W ⟨⟨hm, hi, hs, hlen, hrel⟩, hitW, hitF⟩
  refine map_next hi (fun hdone => ?_) (fun k v W1 cnt' hk hmk hcnt t1 hi1 hent => ?_)
  · -- the end
    have hmap : R.map (·.1) = rows.map (fun r => r.1.settle r.1.mark) := by
      apply List.ext_getElem?
      intro i
      simp only [List.getElem?_map]
      cases hr0 : rows[i]? with
      | none =>
        have hge : rows.length ≤ i := by rw [List.getElem?_eq_none_iff] at hr0; exact hr0
        have : R[i]? = none := by rw [List.getElem?_eq_none_iff]; show R.length ≤ i; have : R.length = rows.length := hlen; omega
        rw [this]; rfl
      | some r0 =>
        obtain ⟨r, hr, _, hr2⟩ := hrel i r0 hr0
        rw [show R[i]? = some r from hr]
        simp only [Option.map_some, hr2 (hdone _)]
    have gW : Gl W := hg.tr hs.tr fun b hb => h.ge b hb
    refine ⟨_, rfl, ?_⟩
    refine call (note_calls hm hnev _ rfl rfl) ?_
    rintro _ w3 ⟨evv', m3, t3, f3⟩
    have mw : MemW W p bl bm R evv span nev := ⟨hm, hi.im⟩
    refine ⟨R, evv', hmap, mw.note m3 t3, hs.trans ⟨t3.mono fun b hb _ => ?_, f3⟩⟩
    rcases List.mem_cons.1 hb with rfl | hb
    · exact in_p
    · exact in_ev (by simpa using hb)
  · -- a round
    have hcnt : cnt' < cnt := hcnt
    obtain ⟨i, r, rfl, hr, hp⟩ := busy_some hmk
    have hr : R[i]? = some r := hr
    have hi' : i < R.length := (List.getElem?_eq_some_iff.1 hr).1
    have hi0 : i < rows.length := by have : R.length = rows.length := hlen; omega
    have hok := hm.ok r (List.mem_of_getElem? hr)
    have hm1 : MemX W1 p bl bm R evv span nev := hm.tr t1 fun b hb => by simp at hb; subst hb; exact hitF
    obtain ⟨r0, hr0⟩ : ∃ r0, rows[i]? = some r0 := ⟨rows[i], List.getElem?_eq_getElem hi0⟩
    have hrr0 : r.1 = r0.1 := by
      obtain ⟨r', hr', h1, _⟩ := hrel i r0 hr0
      rw [show R[i]? = some r' from hr'] at hr
      obtain rfl := Option.some.inj hr
      exact h1 hk
    have hs1 : Step w W1 (foot p bl bm rows evv) (foot p bl bm R evv) := ⟨hs.tr.trans t1 (fun _ h => h) fun b hb hlt' => by simp at hb; omega, hs.sub⟩
    have gW1 : Gl W1 := hg.tr hs1.tr fun b hb => h.ge b hb
    refine ⟨_, _, hent, ?_⟩
    refine ⟨_, hm1.head.cell rfl, i, rfl, hi', _, hm1.mark hr, ?_⟩
    -- the rows behind the round
    have fin : ∀ (W2 : World) (r' : Ln × Value) (cnt2 : Nat), cnt2 ≤ cnt' → r'.1 = r.1.settle r.1.mark → MemX W2 p bl bm (R.set i r') evv span nev → IR W2 bm it (busyM (R.set i r')) (fun j => left j ∧ j ≠ (i : Nat)) cnt2 →
        Step W1 W2 (foot p bl bm R evv) (foot p bl bm (R.set i r') evv) → it < W2.heap.size → it ∉ foot p bl bm (R.set i r') evv →
        (([] : List Deferred) = []) ∧ ∃ s : FS, Sub [(0, .pointer (some ⟨p, 0, none⟩)), (7, .pointer (some ⟨it, 0, none⟩))] [(0, .pointer (some ⟨p, 0, none⟩)), (7, .pointer (some ⟨it, 0, none⟩))] ∧ (FI w p bl bm it rows evv span nev s W2 ∧ it < W2.heap.size ∧ it ∉ foot p bl bm s.rows evv) ∧ s.cnt < cnt := by
      intro W2 r' cnt2 hc2 hr' hm2 hi2 hs2 hit2 hit2f
      refine ⟨rfl, ⟨R.set i r', _, cnt2⟩, ⟨rfl, rfl, trivial⟩, ⟨⟨hm2, hi2, hs1.trans hs2, by simpa using hlen, fun j rj hj => ?_⟩, hit2, hit2f⟩, by show cnt2 < cnt; omega⟩
      by_cases hji : j = i
      · subst hji
        rw [hr0] at hj
        obtain rfl := Option.some.inj hj
        exact ⟨r', by simp [hi'], fun hl => absurd rfl hl.2, fun _ => by rw [hr', hrr0]⟩
      · obtain ⟨rr, h1, h2, h3⟩ := hrel j rj hj
        refine ⟨rr, by show (R.set i r')[j]? = _; rw [List.getElem?_set, if_neg (fun e => hji e.symm)]; exact h1, fun hl => h2 hl.1, fun hl => h3 fun hl' => hl ⟨hl', fun e => hji (by exact_mod_cast e)⟩⟩
    by_cases hmk0 : r.1.mark = 0
    · rw [hmk0]
      refine call (settle0_calls hm1 i hi') ?_
      rintro _ _ rfl
      have hset : R.set i r = R := by rw [← (List.getElem?_eq_some_iff.1 hr).2, List.set_getElem_self]
      obtain ⟨hh, s, _, hI, hc⟩ := fin W1 r cnt' (Nat.le_refl _) (by rw [hmk0]; rfl) (by rw [hset]; exact hm1) (by rw [hset]; exact hi1) (by rw [hset]; exact Step.refl _ _) (Nat.lt_of_lt_of_le hitW t1.size) (by rw [hset]; exact hitF)
      exact ⟨rfl, s, ⟨rfl, rfl, trivial⟩, hI, hc⟩
    · have hmark := hok.mark
      have hin : busyM R ((i : Nat) : Int) ≠ none := (busy_iff hr).2 hp
      refine call (settle_calls hm1 gW1 i r.1.mark hr hmark hmk0 (by rw [hrr0]; exact hsm r0 (List.mem_of_getElem? hr0)) (rest_ir (left := fun j => left j ∧ j ≠ (i : Nat)) n3 hitbl (by simp) hin) hi1) ?_
      rintro _ W2 ⟨v', hm2, ⟨cnt2, hc2, hi2⟩, t2, hf2⟩
      have hbusy : busyM (R.set i (r.1.settle r.1.mark, v')) = if decide (r.1.pend.length - r.1.mark = 0) then delM (busyM R) (i : Nat) else setM (busyM R) (i : Nat) (.bool true) := by
        rw [busyM_set hi']
        have : (r.1.settle r.1.mark).pend = r.1.pend.drop r.1.mark := by unfold Ln.settle; rw [if_neg hmk0]
        have h2 : (r.1.settle r.1.mark).pend = [] ↔ r.1.pend.length - r.1.mark = 0 := by
          rw [this, ← List.length_eq_zero_iff, List.length_drop]
        by_cases h3 : r.1.pend.length - r.1.mark = 0
        · rw [if_pos (h2.2 h3), if_pos (by simpa using h3)]
        · rw [if_neg (fun h => h3 (h2.1 h)), if_neg (by simpa using h3)]
      have hlt1 := hm1.foot_lt
      have hfs := foot_set hm1.nodup hlt1 (r' := (r.1.settle r.1.mark, v')) hr (fun b hb => .inr (hf2 b hb))
      have hit1 : it < W1.heap.size := Nat.lt_of_lt_of_le hitW t1.size
      obtain ⟨hh, s, _, hI, hc⟩ := fin W2 (r.1.settle r.1.mark, v') cnt2 hc2 rfl hm2 (by rw [hbusy]; exact hi2) ⟨t2.mono fun b hb _ => (show b = bl ∨ b = bm by simpa using hb).elim (fun e => e ▸ in_bl) (fun e => e ▸ in_bm), hfs.2⟩ (Nat.lt_of_lt_of_le hit1 t2.size)
        (fun hm => (hfs.2 it hm).elim (fun h => hitF h) (fun h => by omega))
      exact ⟨rfl, s, ⟨rfl, rfl, trivial⟩, hI, hc⟩

end

end Go.Proofs.YtlfolinjajjgjaaDoor
