/- Image, Pending; SameImage. -/
import Derived.Test.YtlfolinjajjgjaaDoorA5
import Derived.Test.YtlfolinjajjgjaaDoorEL
namespace Go.Proofs.YtlfolinjajjgjaaDoor
open Go.E

def ilc (r : List Nat × Nat) : List Value := wcells r.1 ++ [.int .i64 (r.2 : Nat)]
def iOf (r : Ln × Value) : List Nat × Nat := (r.1.ws, r.1.code)
theorem ilc_len {r : List Nat × Nat} (h : r.1.length = 8) : (ilc r).length = 9 := by simp [ilc, wcells, h]
theorem ilc_one (r : List Nat × Nat) : (ilc r).all E.one = true := by simp [ilc, wcells, E.one]
theorem ilc_ints (r : List Nat × Nat) : ilc r = i64s ((r.1 ++ [r.2]).map fun n : Nat => (n : Int)) := by simp [ilc, wcells, i64s]
theorem wcells_ints (ws : List Nat) : wcells ws = i64s (ws.map fun n : Nat => (n : Int)) := by simp [wcells, i64s]
theorem nats_eq {a b : List Nat} : (a.map fun n : Nat => (n : Int)) = (b.map fun n : Nat => (n : Int)) ↔ a = b := by
  exact List.map_inj_right (fun x y h => Int.ofNat.inj h)

theorem fm_at9 {L : List (List Nat × Nat)} (hL : ∀ r ∈ L, r.1.length = 8) {i : Nat} {r : List Nat × Nat} (hr : L[i]? = some r) {W : World} {g o : Nat} (hc : Cells W g o (L.flatMap ilc)) : Cells W g (o + i * 9) (ilc r) := fun j v hv => by
  rw [Nat.add_assoc]
  exact hc _ _ (fm_get (k := 9) (fun r hr => ilc_len (hL r hr)) hr hv)

section
variable {w : World}

set_option maxHeartbeats 1000000 in
theorem Image_calls {p bl bm : Nat} {rows : List (Ln × Value)} {evv : Value} {span nev : Nat} (h : MemX w p bl bm rows evv span nev) :
    Calls cx.P 13 #[.pointer (some ⟨p, 0, none⟩)] w (Ret fun v w' => Tr [] w w' ∧ ∃ bo, v = .slice (some ⟨bo, 0, none⟩) rows.length rows.length ∧ w.heap.size ≤ bo ∧ Blk w' bo ((rows.map iOf).flatMap ilc) 48) := by
  have hsm := h.small
  obtain ⟨n, hn⟩ : ∃ n, n = rows.length := ⟨_, rfl⟩
  refine calls_body cx_ok (args := [.pointer (some ⟨p, 0, none⟩)]) Tryd.func13 rfl 29 rfl rfl [.tmp 2] rfl ?_
  refine ⟨_, h.head.cell rfl, ?_⟩
  rw [← hn] at hsm ⊢
  refine ⟨n, n, rfl, rfl, Nat.le_refl _, ⟨by show n * 72 ≤ _; omega, by omega, rfl⟩, fun bo w1 n1 => ?_⟩
  have e1 := n1.num; have z1 := n1.size
  refine ⟨_, (h.head.ext n1.tr).cell rfl, ?_⟩
  rw [← hn]
  obtain ⟨I, hI⟩ : ∃ I, I = rows.map iOf := ⟨_, rfl⟩
  have hIl : I.length = n := by rw [hI, List.length_map, hn]
  have hI8 : ∀ r ∈ I, r.1.length = 8 := fun r hr => by
    rw [hI] at hr
    obtain ⟨x, hx, rfl⟩ := List.mem_map.1 hr
    exact (h.ok x hx).ws.len
  rw [← hI]
  obtain ⟨G, hG⟩ : ∃ G : Nat → List (List Nat × Nat), G = fun k => I.take k ++ List.replicate (n - k) (zeros8, 0) := ⟨_, rfl⟩
  have hG8 : ∀ k, ∀ r ∈ G k, r.1.length = 8 := fun k r hr => by
    rw [hG] at hr
    rcases List.mem_append.1 hr with hr | hr
    · exact hI8 r (List.mem_of_mem_take hr)
    · rw [List.eq_of_mem_replicate hr]; rfl
  have hGc : ∀ k, ∀ r ∈ G k, (ilc r).length = 9 := fun k r hr => ilc_len (hG8 k r hr)
  have hGl : ∀ k, k ≤ n → (G k).length = n := fun k hk => by rw [hG]; simp; omega
  have B0 : Blk w1 bo ((G 0).flatMap ilc) 48 := by
    have hb := n1.blk
    have : G 0 = List.replicate n (zeros8, 0) := by rw [hG]; simp
    rw [this, ← flatten_rep n _ (zeros8, 0) ilc rfl]
    exact hb
  refine loop_rule cx_ok (fun k W => k ≤ n ∧ Tr [] w W ∧ Blk W bo ((G k).flatMap ilc) 48) (fun k : Nat => [(3, .slice (some ⟨bo, 0, none⟩) n n), (15, .slice (some ⟨bl, 0, none⟩) n n), (16, .int .i64 n), (17, .int .i64 k)]) (fun k => n - k) 0
    ⟨rfl, rfl, rfl, rfl, trivial⟩ ⟨by omega, n1.tr, B0⟩ ?_
  rintro k W ⟨hk, tW, BW⟩
  have zW := tW.size
  have hboW := BW.lt
  refine ⟨fun hlt => ?_, fun hge => ?_⟩
  · have hkn : k < n := by omega
    obtain ⟨r, hr⟩ : ∃ r, rows[k]? = some r := ⟨_, List.getElem?_eq_getElem (by omega)⟩
    have hok := h.ok r (List.mem_of_getElem? hr)
    have hIr : I[k]? = some (iOf r) := by rw [hI, List.getElem?_map, hr]; rfl
    have hcl : Cells W bl (0 + k * 11) (lcells r) := fun j v hv => by rw [Nat.zero_add]; exact (h.ext tW).cell hr hv
    have hone : (lcells r).all E.one = true := by
      obtain ⟨av, cv, hv⟩ := Row.slice (h.pend r (List.mem_of_getElem? hr))
      simp [lcells, wcells, E.one, hv]
    refine ⟨k, rfl, hkn, lcells r, hcl, lcells_len hok, fun b5 W1 n5 => ?_⟩
    have e5 := n5.num; have z5 := n5.size
    refine ⟨_, _, n5.blk, lcells_len hok, by show 0 + 11 ≤ 11; decide, hone, fun W2 u2 => ?_⟩
    have z2 := u2.size
    have B5 : Blk W2 b5 (lcells r) 69 := Upd.whole u2 rfl (lcells_len hok)
    have t2 : Tr [] W W2 := u2.ext n5.tr (by omega)
    have hc9 : Cells W2 b5 (0 + 0) (ilc (iOf r)) := B5.cells 0 _ fun j v hv => by
      rw [Nat.zero_add]
      have : lcells r = ilc (iOf r) ++ [r.2, .int .i64 (r.1.mark : Nat)] := by simp [lcells, ilc, iOf]
      rw [this, List.getElem?_append_left (List.getElem?_eq_some_iff.1 hv).1]
      exact hv
    have B2 := BW.ext t2
    have hl9 : (ilc (iOf r)).length = 9 := ilc_len hok.ws.len
    refine ⟨ilc (iOf r), hc9, hl9, k, rfl, hkn, _, _, B2, hl9, by rw [fm_len (hGc k), hGl k hk]; show 0 + k * 9 + 9 ≤ _; omega, ilc_one _, fun W3 u3 => ?_⟩
    have hGk : (G k)[k]? = some (zeros8, 0) := by
      rw [hG]
      simp only
      rw [List.getElem?_append_right (by simp; omega), List.length_take, List.getElem?_replicate, if_pos (by omega)]
    have hGs : G (k + 1) = (G k).set k (iOf r) := by
      rw [hG]
      simp only
      rw [take_snoc hIr, List.set_append, if_neg (by simp; omega), List.length_take, Nat.min_eq_left (by omega), Nat.sub_self]
      have : n - k = (n - (k + 1)) + 1 := by omega
      rw [this, List.replicate_succ, List.set_cons_zero]
      simp
    have B3 : Blk W3 bo ((G (k + 1)).flatMap ilc) 48 := by
      have hb := u3.blk
      rw [hGs, ← fm_splice (k := 9) (n := 9) (o := 0) (vs := ilc (iOf r)) splice (by funext l o n vs; rfl) (hGc k) hGk (by omega) (by rw [splice_all (hGc k _ (List.mem_of_getElem? hGk)) hl9])]
      rw [show k * 9 + 0 = 0 + k * 9 by omega]
      exact hb
    refine ⟨((k + 1 : Nat) : Int), by rw [w64 (by omega)]; omega, ?_⟩
    exact ⟨rfl, k + 1, ⟨rfl, rfl, rfl, rfl, trivial⟩, ⟨hkn, u3.ext (tW.ext t2) (by omega), B3⟩, by omega⟩
  · have hkn : k = n := by omega
    have : G k = I := by rw [hG, hkn]; simp [← hIl]
    rw [this] at BW
    exact ⟨tW, bo, rfl, by omega, BW⟩

theorem flat_line : flatN cx.P 4 48 = some 9 := by kernel_rfl
theorem flat_words : flatN cx.P 4 46 = some 8 := by kernel_rfl
theorem guard_line : cx.P.eqGuardType cx.P.depth 48 = false := by kernel_rfl
theorem guard_words : cx.P.eqGuardType cx.P.depth 46 = false := by kernel_rfl
theorem wide_line : notInt cx.P 48 = true := by kernel_rfl
theorem wide_words : notInt cx.P 46 = true := by kernel_rfl

theorem SameImage_calls (L : List (List Nat × Nat)) (hL : ∀ r ∈ L, r.1.length = 8) (hn : L.length ≤ 4611686018427387904) (b1 b2 c1 c2 : Nat) (h1 : Cells w b1 0 (L.flatMap ilc)) (h2 : Cells w b2 0 (L.flatMap ilc)) :
    Calls cx.P 14 #[.slice (some ⟨b1, 0, none⟩) L.length c1, .slice (some ⟨b2, 0, none⟩) L.length c2] w (Ret fun v w' => v = .bool true ∧ Tr [] w w') := by
  refine calls_body cx_ok (args := [.slice (some ⟨b1, 0, none⟩) L.length c1, .slice (some ⟨b2, 0, none⟩) L.length c2]) Tryd.func14 rfl 26 rfl rfl [.tmp 4] rfl ?_
  refine ⟨fun _ => ?_, fun h => absurd rfl h⟩
  refine loop_rule cx_ok (fun k W => k ≤ L.length ∧ Tr [] w W) (fun k : Nat => [(0, .slice (some ⟨b1, 0, none⟩) L.length c1), (1, .slice (some ⟨b2, 0, none⟩) L.length c2), (5, .int .i64 k)]) (fun k => L.length - k) 0 ⟨rfl, rfl, rfl, trivial⟩ ⟨by omega, Tr.refl _ _⟩ ?_
  rintro k W ⟨hk, tW⟩
  refine ⟨fun hlt => ?_, fun hge => ?_⟩
  · have hkn : k < L.length := by omega
    obtain ⟨r, hr⟩ : ∃ r, L[k]? = some r := ⟨_, List.getElem?_eq_getElem hkn⟩
    have hc1 : Cells W b1 (0 + k * 9) (ilc r) := (fm_at9 hL hr h1).ext tW
    have hc2 : Cells W b2 (0 + k * 9) (ilc r) := (fm_at9 hL hr h2).ext tW
    have hl9 : (ilc r).length = 9 := ilc_len (hL r (List.mem_of_getElem? hr))
    refine draw_rule cx_ok [] (Plan.takes [0, 1, 2, 3, 4, 5, 6, 7] (.one true 8 .done)) (by kernel_rfl) ?_
    intro W1 d
    refine ⟨k, rfl, hkn, _, fun w' t => hc1.tr t (by simp), hl9, k, rfl, hkn, _, fun w' t => hc2.tr t (by simp), hl9, ?_⟩
    refine ⟨?_, trivial⟩
    refine neq_flat (d := 4) (by decide) flat_line wide_line guard_line _ _ (ilc_ints r) (ilc_ints r) (by simp [hL r (List.mem_of_getElem? hr)]) (by simp [hL r (List.mem_of_getElem? hr)]) W1 ?_
    rw [decide_eq_true rfl]
    refine ⟨d.tr, ?_⟩
    refine ⟨((k + 1 : Nat) : Int), by rw [w64 (by omega)]; omega, ?_⟩
    exact ⟨rfl, k + 1, ⟨rfl, rfl, rfl, trivial⟩, ⟨hkn, tW.ext d.tr⟩, by omega⟩
  · exact ⟨rfl, tW⟩

theorem clone_row_calls {s : Value} {n : Nat} {xs : List Value} (h : Row w 89 2 s n xs) (h1 : xs.all E.one = true) (hn : n ≤ 1099511627776) :
    Calls cx.P 39 #[s] w (Ret fun v w' => Row w' 89 2 v n xs ∧ Tr [] w w') := by
  rcases Row.elem h with ⟨rfl, rfl⟩ | ⟨g, cap, rfl, _, _, hc⟩
  · refine calls_body cx_ok (args := [.slice none 0 0]) Tryd.func39 rfl 8 rfl rfl [.tmp 2] rfl ?_
    refine ⟨.bool true, w, eql_nil (t := 44) (x := ⟨1, 24, false, [.slice none 0 0], .slice 89⟩) rfl rfl _ _ none 0 0 w, ?_⟩
    exact ⟨h, Tr.refl _ _⟩
  · exact (clone_store_calls w g 0 n cap xs h.1 hc h1 hn).mono fun e w' ⟨v, he, hr, t, _⟩ => ⟨v, he, hr, t⟩

theorem Pending_calls {p bl bm : Nat} {rows : List (Ln × Value)} {evv : Value} {span nev : Nat} (h : MemX w p bl bm rows evv span nev) (i : Nat) {r : Ln × Value} (hr : rows[i]? = some r) (hsm : r.1.pend.length ≤ 1099511627776) :
    Calls cx.P 15 #[.pointer (some ⟨p, 0, none⟩), .int .i64 (i : Nat)] w (Ret fun v w' => Row w' 89 2 v r.1.pend.length (pcells r.1.pend) ∧ Tr [] w w') := by
  have hi : i < rows.length := (List.getElem?_eq_some_iff.1 hr).1
  refine calls_body cx_ok (args := [.pointer (some ⟨p, 0, none⟩), .int .i64 (i : Nat)]) Tryd.func15 rfl 18 rfl rfl [.tmp 4] rfl ?_
  refine call (has_calls h i) ?_
  rintro v _ ⟨hv, rfl⟩
  rw [decide_eq_true (by omega)] at hv
  subst hv
  refine ⟨_, h.head.cell rfl, i, rfl, hi, _, h.pcell hr, ?_⟩
  refine call (clone_row_calls (h.pend r (List.mem_of_getElem? hr)) (pcells_one _) hsm) ?_
  rintro v w1 ⟨hr1, t1⟩
  exact ⟨hr1, t1⟩

end

end Go.Proofs.YtlfolinjajjgjaaDoor
