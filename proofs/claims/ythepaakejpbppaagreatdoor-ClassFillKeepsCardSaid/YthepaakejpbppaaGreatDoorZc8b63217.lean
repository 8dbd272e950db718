/- Part 4 of the proof: N2, N3, N4, N5, N6, N7, N8, N9, O0, O1, O2, O3, O4 -/
import Derived.Test.YthepaakejpbppaaGreatDoorZ15132b63

/- The views: Backward; has; Last; Set; Over. -/
namespace Go.Proofs.YthepaakejpbppaaGreatDoor
open Go.E

def ecells (E : List (Int × Int)) : List Value := E.flatMap fun e => [.int .i64 e.1, .int .i64 e.2]
theorem ecells_len (E : List (Int × Int)) : (ecells E).length = E.length * 2 := fm_len (fun _ _ => rfl)
theorem ecells_get {E : List (Int × Int)} {i : Nat} {e : Int × Int} (h : E[i]? = some e) : (ecells E)[i * 2]? = some (.int .i64 e.1) ∧ (ecells E)[i * 2 + 1]? = some (.int .i64 e.2) :=
  ⟨fm_get (k := 2) (j := 0) (fun _ _ => rfl) h rfl, fm_get (k := 2) (j := 1) (fun _ _ => rfl) h rfl⟩
theorem ecells_snoc (E : List (Int × Int)) (a v : Int) : ecells (E ++ [(a, v)]) = ecells E ++ [.int .i64 a, .int .i64 v] := by simp [ecells]

/-- The last value of an address among the first k entries. -/
def lastE (E : List (Int × Int)) (a : Int) : Nat → Option Int
  | 0 => none
  | k + 1 => match E[k]? with
    | some e => if e.1 = a then some e.2 else lastE E a k
    | none => lastE E a k

theorem lastE_hit {E : List (Int × Int)} {a : Int} {k : Nat} {e : Int × Int} (h : E[k]? = some e) (he : e.1 = a) : lastE E a (k + 1) = some e.2 := by
  unfold lastE; rw [h]; exact if_pos he
theorem lastE_miss {E : List (Int × Int)} {a : Int} {k : Nat} {e : Int × Int} (h : E[k]? = some e) (he : e.1 ≠ a) : lastE E a (k + 1) = lastE E a k := by
  conv => lhs; unfold lastE
  rw [h]; exact if_neg he

theorem lastE_in {E : List (Int × Int)} {a v : Int} : ∀ {k : Nat}, lastE E a k = some v → (a, v) ∈ E
  | 0, h => by cases h
  | k + 1, h => by
    unfold lastE at h
    cases hk : E[k]? with
    | none => rw [hk] at h; exact lastE_in h
    | some e =>
      rw [hk] at h
      by_cases he : e.1 = a
      · simp only [if_pos he] at h
        obtain rfl := Option.some.inj h
        rw [← he]
        exact List.mem_of_getElem? hk
      · simp only [if_neg he] at h
        exact lastE_in h

/-- What a view loads. -/
def viewL (E : List (Int × Int)) (ld : Int → Int × Int) (a : Int) : Int × Int := match lastE E a E.length with
  | some v => (v, 0)
  | none => ld a

theorem viewL_nil (ld : Int → Int × Int) : viewL [] ld = ld := rfl

def hasA (n : Nat) (a : Int) : Prop := 0 ≤ a ∧ a < 8 * n
instance (n : Nat) (a : Int) : Decidable (hasA n a) := by unfold hasA; infer_instance

/-- Set. -/
def setE (n : Nat) (E : List (Int × Int)) (a v : Int) : List (Int × Int) := if hasA n a ∧ 0 ≤ v ∧ v ≤ 1099511627775 then E ++ [(a, v)] else E

section
variable {w : World}

theorem Backward_calls (ad : Option Addr) (n c : Nat) : Calls cx.P 116 #[.slice ad n c] w (Ret fun v w' => Tr [] w w' ∧ ∃ b, v = .func (.func 144) #[] #[.pointer (some ⟨b, 0, none⟩)] ∧ Blk w' b [.slice ad n c] 23 ∧ w.heap.size ≤ b) := by
  refine calls_body cx_ok (args := [.slice ad n c]) Tryz.func116 rfl 4 rfl rfl [.tmp 2] rfl ?_
  intro b w1 n1
  exact ⟨n1.tr, b, rfl, n1.blk, by have := n1.num; omega⟩

theorem Backward1_calls (E : List (Int × Int)) (sl : Value) (b l : Nat) (J : Nat → World → Prop) (X : World → Prop) (hsm : E.length ≤ 1099511627776)
    (hJ : ∀ k W, J k W → Blk W b [sl] 23 ∧ Sli W sl E.length (ecells E))
    (hy : ∀ k e W, E[k]? = some e → J (k + 1) W → CallYP cx l [.int .i64 (k : Nat), .agg #[.int .i64 e.1, .int .i64 e.2]] W fun v W' => (v = .bool true ∧ J k W') ∨ (v = .bool false ∧ X W'))
    (h0 : J E.length w) : Calls cx.P 144 #[.func (.yield l) #[] #[], .pointer (some ⟨b, 0, none⟩)] w (Ret fun _ w' => J 0 w' ∨ X w') := by
  refine calls_body cx_ok (args := [.func (.yield l) #[] #[], .pointer (some ⟨b, 0, none⟩)]) Tryz.func144 rfl 19 rfl rfl [] rfl ?_
  obtain ⟨hb0, hs0⟩ := hJ _ w h0
  obtain ⟨ad, c, hsl⟩ := hs0.slice
  subst hsl
  refine ⟨_, hb0.cell rfl, ((E.length : Int) - 1), by rw [w64 (by omega)], ?_⟩
  refine loop_rule cx_ok (fun k W => k ≤ E.length ∧ J k W) (fun k : Nat => [(0, .func (.yield l) #[] #[]), (1, .pointer (some ⟨b, 0, none⟩)), (3, .int .i64 ((k : Int) - 1))]) (fun k => k) E.length ⟨rfl, rfl, rfl, trivial⟩ ⟨Nat.le_refl _, h0⟩ ?_
  rintro k W ⟨hk, hJk⟩
  refine ⟨fun hge => ?_, fun hlt => ?_⟩
  · obtain ⟨j, rfl⟩ : ∃ j, k = j + 1 := ⟨k - 1, by omega⟩
    have hj : j < E.length := by omega
    have he : E[j]? = some E[j] := List.getElem?_eq_getElem hj
    obtain ⟨hc0, hc1⟩ := ecells_get he
    obtain ⟨hb, ad', c', hv, hnc, hs⟩ := hJ _ W hJk
    obtain ⟨rfl, _, rfl⟩ := Value.slice.inj hv
    rcases hs with ⟨_, h0'⟩ | ⟨g, o, rfl, hc⟩
    · omega
    refine ⟨_, hb.cell rfl, j, by omega, hj, [.int .i64 E[j].1, .int .i64 E[j].2], ?_, rfl, ?_⟩
    · intro i v hi
      rcases i with _ | _ | i
      · have := hc _ _ hc0
        rw [show o + j * 2 + 0 = o + j * 2 by omega]
        rw [this]; exact hi
      · have := hc _ _ hc1
        rw [show o + j * 2 + (0 + 1) = o + (j * 2 + 1) by omega]
        rw [this]; exact hi
      · simp at hi
    rw [show ((j + 1 : Nat) : Int) - 1 = (j : Int) by omega]
    refine (hy j _ W he hJk).imp ?_
    rintro v W2 (⟨rfl, hJ2⟩ | ⟨rfl, hX⟩)
    · refine ⟨((j : Int) - 1), by rw [w64 (by omega)], ?_⟩
      exact ⟨rfl, j, ⟨rfl, rfl, rfl, trivial⟩, ⟨by omega, hJ2⟩, by omega⟩
    · exact .inr hX
  · obtain rfl : k = 0 := by omega
    exact .inl hJk

/-- A view of memory m with entries E lies at v. -/
def RdV (w : World) (T v m : Nat) (E : List (Int × Int)) : Prop := ∃ sl, Blk w v [.pointer (some ⟨m, 0, none⟩), sl] T ∧ Sli w sl E.length (ecells E)
theorem RdV.ext {w' : World} {T v m : Nat} {E : List (Int × Int)} (h : RdV w T v m E) (t : Tr [] w w') : RdV w' T v m E := by
  obtain ⟨sl, h1, h2⟩ := h
  exact ⟨sl, h1.ext t, h2.ext t⟩

/-- Function f loads from p. -/
def IsLoad (w : World) (f p : Nat) (ld : Int → Int × Int) : Prop := ∀ W a, Tr [] w W → inI64 a → Calls cx.P f #[.pointer (some ⟨p, 0, none⟩), .int .i64 a] W (Ret fun v W' => v = .tuple #[.int .i64 (ld a).1, .int .i64 (ld a).2] ∧ Tr [] W W')
theorem IsLoad.ext {w' : World} {f p : Nat} {ld : Int → Int × Int} (h : IsLoad w f p ld) (t : Tr [] w w') : IsLoad w' f p ld := fun W a tW ha => h W a (t.ext tW) ha

theorem Last_calls {E : List (Int × Int)} {sl : Value} (hs : Sli w sl E.length (ecells E)) (hsm : E.length ≤ 1099511627776) (a : Int) :
    Calls cx.P 118 #[sl, .int .i64 a] w (Ret fun v w' => v = .tuple #[.int .i64 ((lastE E a E.length).getD 0), .bool (lastE E a E.length).isSome] ∧ w = w') := by
  obtain ⟨ad, c, rfl⟩ := hs.slice
  refine calls_body cx_ok (args := [.slice ad E.length c, .int .i64 a]) Tryz.func118 rfl 26 rfl rfl [.tmp 4, .tmp 5] rfl ?_
  refine ⟨((E.length : Int) - 1), by rw [w64 (by omega)], ?_⟩
  refine loop_rule cx_ok (fun k W => k ≤ E.length ∧ w = W ∧ lastE E a E.length = lastE E a k) (fun k : Nat => [(0, .slice ad E.length c), (1, .int .i64 a), (6, .int .i64 ((k : Int) - 1))]) (fun k => k) E.length ⟨rfl, rfl, rfl, trivial⟩ ⟨Nat.le_refl _, rfl, rfl⟩ ?_
  rintro k _ ⟨hk, rfl, hl⟩
  refine ⟨fun hge => ?_, fun hlt => ?_⟩
  · obtain ⟨j, rfl⟩ : ∃ j, k = j + 1 := ⟨k - 1, by omega⟩
    have hj : j < E.length := by omega
    have he : E[j]? = some E[j] := List.getElem?_eq_getElem hj
    obtain ⟨hc0, hc1⟩ := ecells_get he
    obtain ⟨ad', c', hv, hnc, hs⟩ := hs
    obtain ⟨rfl, _, rfl⟩ := Value.slice.inj hv
    rcases hs with ⟨_, h0'⟩ | ⟨g, o, rfl, hc⟩
    · omega
    have k0 : w.cell? ⟨g, o + j * 2 + 0, none⟩ = some (.int .i64 E[j].1) := by rw [show o + j * 2 + 0 = o + j * 2 by omega]; exact hc _ _ hc0
    have k1 : w.cell? ⟨g, o + j * 2 + 1, none⟩ = some (.int .i64 E[j].2) := by rw [show o + j * 2 + 1 = o + (j * 2 + 1) by omega]; exact hc _ _ hc1
    refine ⟨j, by omega, hj, _, k0, fun h1 => ?_, fun h1 => ?_⟩
    · refine ⟨j, by omega, hj, _, k1, ?_⟩
      rw [hl, lastE_hit he h1]
      exact ⟨rfl, rfl⟩
    · rw [show ((j + 1 : Nat) : Int) - 1 = (j : Int) by omega]
      refine ⟨((j : Int) - 1), by rw [w64 (by omega)], ?_⟩
      exact ⟨rfl, j, ⟨rfl, rfl, rfl, trivial⟩, ⟨by omega, rfl, by rw [hl, lastE_miss he h1]⟩, by omega⟩
  · obtain rfl : k = 0 := by omega
    rw [hl]
    exact ⟨rfl, rfl⟩

theorem VLoad10_calls {v m : Nat} {E : List (Int × Int)} (h : RdV w 42 v m E) (hsm : E.length ≤ 1099511627776) {ld : Int → Int × Int} (hl : IsLoad w 103 m ld) :
    IsLoad w 77 v (viewL E ld) := by
  intro W a tW ha
  obtain ⟨sl, B, hs⟩ := h.ext tW
  refine calls_body cx_ok (args := [.pointer (some ⟨v, 0, none⟩), .int .i64 a]) Tryz.func77 rfl 27 rfl rfl [.tmp 4, .tmp 5] rfl ?_
  refine ⟨_, B.cell rfl, ?_⟩
  refine call (Last_calls hs hsm a) ?_
  rintro _ _ ⟨rfl, rfl⟩
  unfold viewL
  cases lastE E a E.length with
  | some x => exact ⟨rfl, Tr.refl _ _⟩
  | none =>
    refine ⟨_, B.cell rfl, ?_⟩
    refine call (hl W a tW ha) ?_
    rintro _ w2 ⟨rfl, t2⟩
    exact ⟨rfl, t2⟩

set_option maxHeartbeats 1000000 in
theorem VLoad_calls {v m : Nat} {E : List (Int × Int)} (h : RdV w 133 v m E) (hsm : E.length ≤ 1099511627776) {ld : Int → Int × Int} (hl : IsLoad w 59 m ld) :
    IsLoad w 70 v (viewL E ld) := by
  intro w0 a tW ha
  have hv0 := h.ext tW
  refine calls_body_m cx_ok (args := [.pointer (some ⟨v, 0, none⟩), .int .i64 a]) Tryz.func70 rfl 30 rfl rfl [.cell 4 3, .cell 5 36] rfl ?_
  intro b3 w1 n1 b4 w2 n2 b5 w3 n3
  have e1 := n1.num; have e2 := n2.num; have e3 := n3.num
  have z1 := n1.size; have z2 := n2.size; have z3 := n3.size
  have t3 : Tr [] w0 w3 := (n1.tr.ext n2.tr).ext n3.tr
  have B3 : Blk w3 b3 [.int .i64 a] 3 := (show Blk w1 b3 _ _ from n1.blk).ext (n2.tr.ext n3.tr)
  have B4 : Blk w3 b4 [.int .i64 0] 3 := (show Blk w2 b4 _ _ from n2.blk).ext n3.tr
  have B5 : Blk w3 b5 [.int .i64 0] 36 := n3.blk
  obtain ⟨sl, B, hs⟩ := hv0.ext t3
  obtain ⟨ad, c, rfl⟩ := hs.slice
  have hvlt : v < w0.heap.size := by obtain ⟨_, B0, _⟩ := hv0; exact B0.lt
  refine ⟨_, B.cell rfl, ?_⟩
  refine call (Backward_calls ad E.length c) ?_
  rintro _ w4 ⟨t4, c1, rfl, C1, hc1⟩
  have z4 := t4.size
  refine range_rule cx_ok (first := []) (cap := [.pointer (some ⟨c1, 0, none⟩)]) (g := 144) rfl rfl ?_
  intro fn tmps bD l wa wb na nb hag
  have ea := na.num; have eb := nb.num; have za := na.size; have zb := nb.size
  have t4b : Tr [] w4 wb := na.tr.ext nb.tr
  have t3b := t4.ext t4b
  have t0b := t3.ext t3b
  have hbD : wb.heap[bD]? = some (.deferred (some [])) := nb.tr.get na.get (by simp)
  have D3 := B3.ext t3b
  have D4 := B4.ext t3b
  have D5 := B5.ext t3b
  have DC := C1.ext t4b
  have hcl := C1.lt
  have hto : ∀ W S, Tr S wb W → (∀ b ∈ S, w0.heap.size ≤ b) → Tr [] w0 W := fun W S t hS => t0b.trans t (fun _ h => h) (fun b hb hlt => by have := hS b hb; omega)
  -- behind the loop
  have fin : ∀ (x y : Int) (S : List Nat) (W : World), Tr S wb W → (∀ b ∈ S, b = l ∨ b = b4 ∨ b = b5) → Blk W b4 [.int .i64 x] 3 → Blk W b5 [.int .i64 y] 36 → viewL E ld a = (x, y) →
      W.heap[bD]? = some (.deferred (some [])) ∧ ∀ wg, Upd W bD (.deferred none) wg → ∃ v, wg.cell? ⟨b4, 0, none⟩ = some v ∧ ∃ v1, wg.cell? ⟨b5, 0, none⟩ = some v1 ∧ (pack [v, v1] = .tuple #[.int .i64 (viewL E ld a).1, .int .i64 (viewL E ld a).2] ∧ Tr [] w0 wg) := by
    intro x y S W tS hS G4 G5 hx
    have zS := tS.size
    refine ⟨tS.get hbD (fun hm => by have := hS _ hm; omega), fun wg ug => ⟨_, (G4.tr ug.tr (by simp; omega)).cell rfl, _, (G5.tr ug.tr (by simp; omega)).cell rfl, ?_, ?_⟩⟩
    · rw [hx]; rfl
    · exact ug.ext (hto W S tS fun b hb => by have := hS b hb; omega) (by omega)
  refine call (Backward1_calls E (.slice ad E.length c) c1 l (fun k W => Tr [l] wb W ∧ W.heap[l]? = wb.heap[l]? ∧ lastE E a E.length = lastE E a k)
    (fun W => ∃ x, lastE E a E.length = some x ∧ Tr [l, b4, b5] wb W ∧ Blk W b4 [.int .i64 x] 3 ∧ Blk W b5 [.int .i64 0] 36 ∧ ∃ lp, W.heap[l]? = some (.loop lp) ∧ lp.state = .done ∧ lp.pending = some .ret) hsm ?_ ?_ ⟨Tr.refl _ _, rfl, rfl⟩) ?_
  · rintro k W ⟨tJ, _, _⟩
    obtain ⟨sl', B', hs'⟩ := hv0.ext (hto W _ tJ (by simp; omega))
    have : sl' = .slice ad E.length c := by
      have h1 := B'.cell (o := 1) rfl
      have h2 := (B.ext (t3b)).tr tJ (by simp; omega) |>.cell (o := 1) rfl
      exact Option.some.inj (h1.symm.trans h2)
    subst this
    exact ⟨DC.tr tJ (by simp; omega), hs'⟩
  · rintro k e W he ⟨tJ, hlJ, hlast⟩
    have zW := tJ.size
    refine round_rule cx_ok [13, 14] (hlJ.trans nb.get) rfl rfl rfl hag rfl ?_
    intro b7 W1 m1
    have em := m1.num; have zm := m1.size
    refine ⟨_, _, m1.blk, rfl, by show 0 + 2 ≤ 2; decide, rfl, ?_⟩
    intro W2 v2
    have zv := v2.size
    have D7 := v2.blk
    have hl2 : W2.heap[l]? = wb.heap[l]? := by
      rw [v2.tr.keep l (by omega) (by simp; omega), m1.tr.keep l (by omega) (by simp), hlJ]
    refine ⟨hl2.trans nb.get, ?_⟩
    intro W3 v3
    have zv3 := v3.size
    have t3' : Tr [l] wb W3 := (tJ.trans m1.tr (fun _ h => h) (fun _ h _ => by cases h) |>.trans v2.tr (fun _ h => h) (fun c hc hlt => by simp at hc; omega)).trans v3.tr (fun _ h => h) (fun _ h _ => h)
    have F3 := D3.tr t3' (by simp; omega)
    have F7 := D7.tr v3.tr (by simp; omega)
    refine ⟨_, F7.cell rfl, _, F3.cell rfl, fun h => ?_, fun h => ?_⟩
    · refine ⟨_, F7.cell rfl, _, _, D4.tr t3' (by simp; omega), by show 0 < 1; decide, rfl, fun W4 u4 => ?_⟩
      refine ⟨_, _, (D5.tr t3' (by simp; omega)).tr u4.tr (by simp; omega), by show 0 < 1; decide, rfl, fun W5 u5 => ?_⟩
      have z4' := u4.size; have z5' := u5.size
      refine ⟨_, u5.tr.get (u4.tr.get v3.get (by simp; omega)) (by simp; omega), fun W6 u6 => ?_⟩
      refine .inr ⟨rfl, e.2, by rw [hlast, lastE_hit he h], ?_, ?_, ?_, _, u6.get, rfl, rfl⟩
      · have q4 : Tr [l, b4, b5] wb W4 := t3'.trans u4.tr (fun c h => by simp at h ⊢; exact .inl h) (fun c h _ => by simp at h; simp [h])
        have q5 : Tr [l, b4, b5] wb W5 := q4.trans u5.tr (fun _ h => h) (fun c h _ => by simp at h; simp [h])
        exact q5.trans u6.tr (fun _ h => h) (fun c h _ => by simp at h; simp [h])
      · exact (u4.blk.tr u5.tr (by simp; omega)).tr u6.tr (by simp; omega)
      · exact u5.blk.tr u6.tr (by simp; omega)
    · refine ⟨_, v3.get, fun W8 u8' => .inl ⟨rfl, t3'.same u8'.tr, ?_, ?_⟩⟩
      · rw [u8'.get, nb.get]
      · rw [hlast, lastE_miss he h]
  · rintro _ w3' (⟨tJ, hlJ, hlast⟩ | ⟨x, hx, tX, X4, X5, lp, hlp, hst, hpend⟩)
    · refine ⟨_, hlJ.trans nb.get, by simp, fun w4' u4 => ?_⟩
      have z3' := tJ.size; have z4' := u4.size
      have tq : Tr [l] wb w4' := tJ.same u4.tr
      have hvw : viewL E ld a = ld a := by unfold viewL; rw [hlast]; rfl
      have t04 := hto w4' _ tq (by simp; omega)
      obtain ⟨sl4, V4, _⟩ := hv0.ext t04
      have G3 := D3.tr tq (by simp; omega)
      have G4 := D4.tr tq (by simp; omega)
      have G5 := D5.tr tq (by simp; omega)
      refine draw_rule cx_ok [b4] (Plan.takes [0, 1, 2, 3, 4, 5] (.one true 6 (Plan.takes [7, 8] (.one true 9 (.one false 10 .done))))) (by kernel_rfl) ?_
      intro w5 d5
      have zd := d5.tr.size
      refine ⟨_, fun w' t => t.cell (V4.cell rfl) (by simp; omega), _, fun w' t => t.cell (G3.cell rfl) (by simp; omega), ?_⟩
      refine ⟨?_, trivial⟩
      refine call (hl w5 a ((tW.ext t04).ext d5.tr) ha) ?_
      rintro _ w6 ⟨rfl, t6⟩
      have t46 := d5.tr.ext t6
      refine ⟨t46.of_ext, ?_⟩
      refine ⟨⟨_, _, G4.ext t46, by show 0 < 1; decide, rfl, fun w7 u7 => ⟨t46.of_ext.trans u7.tr (fun _ h => h) (fun c h _ => h), ?_⟩⟩, trivial⟩
      refine ⟨⟨_, _, (G5.ext t46).tr u7.tr (by simp; omega), by show 0 < 1; decide, rfl, fun w8 u8 => ?_⟩, trivial⟩
      have z6 := t46.size; have z7 := u7.size; have z8 := u8.size
      have q8 : Tr [l, b4, b5] wb w8 := ((tq.trans t46 (fun c h => by simp at h ⊢; exact .inl h) (fun _ h _ => by cases h)).trans u7.tr (fun _ h => h) (fun c h _ => by simp at h; simp [h])).trans u8.tr (fun _ h => h) (fun c h _ => by simp at h; simp [h])
      refine fin _ _ [l, b4, b5] w8 q8 (by simp) (u7.blk.tr u8.tr (by simp; omega)) u8.blk (by rw [hvw])
    · refine ⟨lp, hlp, by rw [hst]; simp, fun w4' u4 => ?_⟩
      rw [hpend]
      have zX := tX.size
      have z4' := u4.size
      refine fin x 0 [l, b4, b5] w4' (tX.trans u4.tr (fun _ h => h) (fun c h _ => by simp at h; simp [h])) (by simp) (X4.tr u4.tr (by simp; omega)) (X5.tr u4.tr (by simp; omega)) (by unfold viewL; rw [hx])

end

end Go.Proofs.YthepaakejpbppaaGreatDoor

/- The views: Over, has, Set. -/
namespace Go.Proofs.YthepaakejpbppaaGreatDoor
open Go.E

/-- A view with entries E lies at v, in blocks of F. -/
def VMem (w : World) (T v m : Nat) (E : List (Int × Int)) (F : List Nat) : Prop := ∃ sl, Blk w v [.pointer (some ⟨m, 0, none⟩), sl] T ∧ Row w 102 2 sl E.length (ecells E) ∧ sl.ownBlock ≠ some v ∧ F = v :: sl.ownBlock.toList

section
variable {w : World} {T v m : Nat} {E : List (Int × Int)} {F : List Nat}

theorem VMem.tr {S : List Nat} {w' : World} (h : VMem w T v m E F) (t : Tr S w w') (hS : ∀ b ∈ S, b ∉ F) : VMem w' T v m E F := by
  obtain ⟨sl, h1, h2, h3, rfl⟩ := h
  exact ⟨sl, h1.tr t fun hm => hS v hm (by simp), Row.tr h2 t fun b hb hm => hS b hm (by simp [hb]), h3, rfl⟩
theorem VMem.ext {w' : World} (h : VMem w T v m E F) (t : Tr [] w w') : VMem w' T v m E F := h.tr t (by simp)
theorem VMem.lt (h : VMem w T v m E F) : ∀ b ∈ F, b < w.heap.size := by
  obtain ⟨sl, h1, h2, h3, rfl⟩ := h
  intro b hb
  rcases List.mem_cons.1 hb with rfl | hb
  · exact h1.lt
  · exact Row.lt h2 (by simpa using hb)
theorem VMem.rd (h : VMem w T v m E F) : RdV w T v m E := by
  obtain ⟨sl, h1, h2, h3, rfl⟩ := h
  exact ⟨sl, h1, Row.sli h2⟩

theorem Over_calls (w : World) (m : Nat) : Calls cx.P 48 #[.pointer (some ⟨m, 0, none⟩)] w (Ret fun x w' => Tr [] w w' ∧ ∃ v, x = .pointer (some ⟨v, 0, none⟩) ∧ VMem w' 133 v m [] [v] ∧ w.heap.size ≤ v) := by
  refine calls_body cx_ok (args := [.pointer (some ⟨m, 0, none⟩)]) Tryz.func48 rfl 7 rfl rfl [.tmp 2] rfl ?_
  refine ⟨_, rfl, _, rfl, fun v w1 n1 => ?_⟩
  exact ⟨n1.tr, v, rfl, ⟨nilv, n1.blk, World.ownsRow_nil _ _ _ _, by simp [nilv, Value.ownBlock], rfl⟩, by have := n1.num; omega⟩

theorem Over10_calls (w : World) (m : Nat) : Calls cx.P 56 #[.pointer (some ⟨m, 0, none⟩)] w (Ret fun x w' => Tr [] w w' ∧ ∃ v, x = .pointer (some ⟨v, 0, none⟩) ∧ VMem w' 42 v m [] [v] ∧ w.heap.size ≤ v) := by
  refine calls_body cx_ok (args := [.pointer (some ⟨m, 0, none⟩)]) Tryz.func56 rfl 6 rfl rfl [.tmp 2] rfl ?_
  refine ⟨_, rfl, fun v w1 n1 => ?_⟩
  exact ⟨n1.tr, v, rfl, ⟨nilv, n1.blk, World.ownsRow_nil _ _ _ _, by simp [nilv, Value.ownBlock], rfl⟩, by have := n1.num; omega⟩

section
variable {L : List Ln} {span N : Nat} {FM : List Nat}

theorem MLines_calls (h : IMem w m L span N FM) : Calls cx.P 137 #[.pointer (some ⟨m, 0, none⟩)] w (Ret fun x w' => x = .int .i64 (L.length : Nat) ∧ w = w') := by
  obtain ⟨bl, bm, rows, evv, nev, hm, rfl, h3, h4, rfl⟩ := h
  refine calls_body cx_ok (args := [.pointer (some ⟨m, 0, none⟩)]) Tryz.func137 rfl 8 rfl rfl [.tmp 2] rfl ?_
  refine ⟨_, hm.head.cell rfl, ?_⟩
  rw [List.length_map]
  exact ⟨rfl, rfl⟩

theorem rhas_calls (h : IMem w m L span N FM) (a : Int) (ha : inI64 a) : Calls cx.P 105 #[.pointer (some ⟨m, 0, none⟩), .int .i64 a] w (Ret fun x w' => x = .bool (decide (hasA L.length a)) ∧ w = w') := by
  refine calls_body cx_ok (args := [.pointer (some ⟨m, 0, none⟩), .int .i64 a]) Tryz.func105 rfl 14 rfl rfl [.tmp 4] rfl ?_
  refine ⟨fun h0 => ?_, fun h0 => ?_⟩
  · refine ⟨_, by decide, quo8 h0 ha.2, ?_⟩
    refine call (MLines_calls h) ?_
    rintro _ _ ⟨rfl, rfl⟩
    refine ⟨fun h1 => ?_, fun h1 => ?_⟩
    · exact ⟨by rw [decide_eq_true (show hasA _ a from ⟨by omega, by omega⟩)]; rfl, rfl⟩
    · exact ⟨by rw [decide_eq_false (fun h : hasA _ a => by have := h.1; have := h.2; omega)]; rfl, rfl⟩
  · exact ⟨by rw [decide_eq_false (fun h : hasA _ a => by have := h.1; have := h.2; omega)]; rfl, rfl⟩

theorem rhas10_calls (h : RMem w m L span N FM) (a : Int) (ha : inI64 a) : Calls cx.P 106 #[.pointer (some ⟨m, 0, none⟩), .int .i64 a] w (Ret fun x w' => x = .bool (decide (hasA L.length a)) ∧ w = w') := by
  obtain ⟨rows, lv, evv, nev, hm, rfl, h3, h4, rfl⟩ := h
  obtain ⟨ad, c, rfl⟩ := hm.slice
  refine calls_body cx_ok (args := [.pointer (some ⟨m, 0, none⟩), .int .i64 a]) Tryz.func106 rfl 17 rfl rfl [.tmp 4] rfl ?_
  rw [List.length_map]
  refine ⟨fun h0 => ?_, fun h0 => ?_⟩
  · refine ⟨_, by decide, quo8 h0 ha.2, _, hm.head.cell rfl, fun h1 => ?_, fun h1 => ?_⟩
    · exact ⟨by rw [decide_eq_true (show hasA _ a from ⟨by omega, by omega⟩)]; rfl, rfl⟩
    · exact ⟨by rw [decide_eq_false (fun h : hasA _ a => by have := h.1; have := h.2; omega)]; rfl, rfl⟩
  · exact ⟨by rw [decide_eq_false (fun h : hasA _ a => by have := h.1; have := h.2; omega)]; rfl, rfl⟩

theorem setE_ok {n : Nat} {a v : Int} (h1 : hasA n a) (h2 : 0 ≤ v) (h3 : v ≤ 1099511627775) : setE n E a v = E ++ [(a, v)] := by unfold setE; rw [if_pos ⟨h1, h2, h3⟩]
theorem setE_no {n : Nat} {a v : Int} (h : ¬ (hasA n a ∧ 0 ≤ v ∧ v ≤ 1099511627775)) : setE n E a v = E := by unfold setE; rw [if_neg h]

theorem VMem.app (sl : Value) (hb : Blk w v [.pointer (some ⟨m, 0, none⟩), sl] T) (hr : Row w 102 2 sl E.length (ecells E)) (hne : sl.ownBlock ≠ some v) (a x : Int) (hE : E.length ≤ 549755813888) {b ty : Nat} (B : Blk w b [.int .i64 a, .int .i64 x] 102) {K : Value → World → Prop}
    (hK : ∀ sl' w', Go.E.one sl' = true → Blk w' v [.pointer (some ⟨m, 0, none⟩), sl] T → (∀ w'' : World, Upd w' v (.cells ([.pointer (some ⟨m, 0, none⟩), sl].set 1 sl').toArray T) w'' → ∃ F', VMem w'' T v m (E ++ [(a, x)]) F' ∧ Step w w'' (v :: sl.ownBlock.toList) F') → K sl' w') :
    RunV cx.P (Builtin.append_ #[23, 23] ty #[sl, .slice (some ⟨b, 0, none⟩) 1 1]) w K := by
  refine append_own cx_ok (x := ⟨1, 24, false, [.slice none 0 0], .slice 102⟩) rfl rfl rfl (by decide) hr b 0 1 1 [.int .i64 a, .int .i64 x] rfl B.all rfl (by omega) (by decide) ?_
  intro sl' w' hr' t hat _
  have hvlt := hb.lt
  have hne' : ∀ b, sl'.ownBlock = some b → b ≠ v := fun b hb' e => by
    rcases hat with h | h
    · exact hne (by rw [← h, hb', e])
    · rw [h] at hb'; have := Option.some.inj hb'; omega
  refine hK sl' w' (Row.one hr') (hb.tr t fun hm => hne (by simpa using hm)) fun w'' u => ⟨v :: sl'.ownBlock.toList, ⟨sl', u.blk, ?_, fun h => hne' v h rfl, rfl⟩, ?_, fun c hc => ?_⟩
  · rw [ecells_snoc, List.length_append]
    exact Row.tr hr' u.tr fun b hb' hm => hne' b hb' (by simpa using hm)
  · exact t.trans u.tr (fun c hc => by simp at hc ⊢; exact .inr hc) (fun c hc _ => by simp at hc; simp [hc])
  · rcases List.mem_cons.1 hc with rfl | hc
    · exact .inl (by simp)
    · have hc : sl'.ownBlock = some c := by simpa using hc
      rcases hat with h | h
      · exact .inl (by simp [← h, hc])
      · rw [h] at hc; exact .inr (by have := Option.some.inj hc; omega)

theorem VSet_calls (h : VMem w 133 v m E F) (hm : IMem w m L span N FM) (a x : Int) (ha : inI64 a) (hE : E.length ≤ 549755813888) :
    Calls cx.P 57 #[.pointer (some ⟨v, 0, none⟩), .int .i64 a, .int .i64 x] w (Ret fun _ w' => ∃ F', VMem w' 133 v m (setE L.length E a x) F' ∧ Step w w' F F') := by
  obtain ⟨sl, hb, hr, hne, rfl⟩ := id h
  refine calls_body cx_ok (args := [.pointer (some ⟨v, 0, none⟩), .int .i64 a, .int .i64 x]) Tryz.func57 rfl 35 rfl rfl [.tmp 6] rfl ?_
  refine ⟨_, hb.cell rfl, ?_⟩
  refine call (rhas_calls hm a ha) ?_
  rintro _ _ ⟨rfl, rfl⟩
  by_cases h1 : hasA L.length a
  · rw [decide_eq_true h1]
    refine ⟨fun h2 => ?_, fun h2 => ⟨fun h3 => ?_, fun h3 => ?_⟩⟩
    · rw [setE_no (by omega)]
      exact ⟨_, h, Step.refl _ _⟩
    · rw [setE_no (by omega)]
      exact ⟨_, h, Step.refl _ _⟩
    · rw [setE_ok h1 (by omega) (by omega)]
      refine ⟨_, hb.cell rfl, _, rfl, _, rfl, fun b8 w8 n8 => ?_⟩
      refine VMem.app sl (hb.ext n8.tr) (Row.tr hr n8.tr (by simp)) hne a x hE n8.blk fun sl' w9 hone hb9 hK => ?_
      refine ⟨_, _, hb9, by show 1 < 2; decide, hone, fun w10 u10 => ?_⟩
      obtain ⟨F', h1, h2⟩ := hK w10 u10
      exact ⟨F', h1, Step.of_ext n8.tr h2⟩
  · rw [decide_eq_false h1, setE_no (fun h => h1 h.1)]
    exact ⟨_, h, Step.refl _ _⟩

theorem VSet10_calls (h : VMem w 42 v m E F) (hm : RMem w m L span N FM) (a x : Int) (ha : inI64 a) (hE : E.length ≤ 549755813888) :
    Calls cx.P 58 #[.pointer (some ⟨v, 0, none⟩), .int .i64 a, .int .i64 x] w (Ret fun _ w' => ∃ F', VMem w' 42 v m (setE L.length E a x) F' ∧ Step w w' F F') := by
  obtain ⟨sl, hb, hr, hne, rfl⟩ := id h
  refine calls_body cx_ok (args := [.pointer (some ⟨v, 0, none⟩), .int .i64 a, .int .i64 x]) Tryz.func58 rfl 32 rfl rfl [.tmp 6] rfl ?_
  refine ⟨_, hb.cell rfl, ?_⟩
  refine call (rhas10_calls hm a ha) ?_
  rintro _ _ ⟨rfl, rfl⟩
  by_cases h1 : hasA L.length a
  · rw [decide_eq_true h1]
    refine ⟨fun h2 => ?_, fun h2 => ⟨fun h3 => ?_, fun h3 => ?_⟩⟩
    · rw [setE_no (by omega)]
      exact ⟨_, h, Step.refl _ _⟩
    · rw [setE_no (by omega)]
      exact ⟨_, h, Step.refl _ _⟩
    · rw [setE_ok h1 (by omega) (by omega)]
      refine ⟨_, hb.cell rfl, _, rfl, _, rfl, fun b8 w8 n8 => ?_⟩
      refine VMem.app sl (hb.ext n8.tr) (Row.tr hr n8.tr (by simp)) hne a x hE n8.blk fun sl' w9 hone hb9 hK => ?_
      refine ⟨_, _, hb9, by show 1 < 2; decide, hone, fun w10 u10 => ?_⟩
      obtain ⟨F', h1, h2⟩ := hK w10 u10
      exact ⟨F', h1, Step.of_ext n8.tr h2⟩
  · rw [decide_eq_false h1, setE_no (fun h => h1 h.1)]
    exact ⟨_, h, Step.refl _ _⟩

end
end

end Go.Proofs.YthepaakejpbppaaGreatDoor

/- class: what a loader says of chunks and blocks. -/
namespace Go.Proofs.YthepaakejpbppaaGreatDoor
open Go.E

def assignedL (ld : Int → Int × Int) (n : Nat) (k : Int) : Int × Int :=
  if k < 0 ∨ (chunksN n : Int) ≤ k then (0, 1)
  else if (ld (112 + k)).2 ≠ 0 then (0, (ld (112 + k)).2)
  else if 5 < (ld (112 + k)).1 then (0, 3)
  else ((ld (112 + k)).1 - 1, 0)

def LdOk (ld : Int → Int × Int) : Prop := ∀ a, inI64 a → 0 ≤ (ld a).1 ∧ (ld a).1 ≤ 1099511627775 ∧ inI64 (ld a).2

def properP (h c : Int) : Bool := decide (h = 0) || (formedP h && decide (classP h = c) && (decide (kindP h = 0) || (decide (kindP h ≤ 6) && decide (0 < genP h))))

abbrev BlkV := Int × Int × Int × Int
def bz : BlkV := (0, 0, 0, 0)
def bcells (b : BlkV) : List Value := [.int .i64 b.1, .int .i64 b.2.1, .int .i64 b.2.2.1, .int .i64 b.2.2.2]

def blockL (ld : Int → Int × Int) (n : Nat) (line : Int) : BlkV × Int :=
  if (assignedL ld n (chunkP n line)).2 ≠ 0 then (bz, (assignedL ld n (chunkP n line)).2)
  else if (assignedL ld n (chunkP n line)).1 = -1 ∨ (line - 16) % linesP (assignedL ld n (chunkP n line)).1 ≠ 0 then (bz, 1)
  else if (ld (8 * line)).2 ≠ 0 then (bz, (ld (8 * line)).2)
  else if properP (ld (8 * line)).1 (assignedL ld n (chunkP n line)).1 = false then (bz, 3)
  else ((line, (assignedL ld n (chunkP n line)).1, kindP (ld (8 * line)).1, genP (ld (8 * line)).1), 0)

theorem assignedL_range {ld : Int → Int × Int} (hd : LdOk ld) {n : Nat} (hn : InL n) (k : Int) (h : (assignedL ld n k).2 = 0) : -1 ≤ (assignedL ld n k).1 ∧ (assignedL ld n k).1 ≤ 4 ∧ 0 ≤ k ∧ k < chunksN n := by
  have hc := hn.chunks
  unfold assignedL at h ⊢
  by_cases h0 : k < 0 ∨ (chunksN n : Int) ≤ k
  · rw [if_pos h0] at h; exact absurd h (by decide)
  · rw [if_neg h0] at h ⊢
    have := hd (112 + k) (by unfold inI64; omega)
    by_cases h1 : (ld (112 + k)).2 ≠ 0
    · rw [if_pos h1] at h; exact absurd h h1
    · rw [if_neg h1] at h ⊢
      by_cases h2 : 5 < (ld (112 + k)).1
      · rw [if_pos h2] at h; exact absurd h (by decide)
      · rw [if_neg h2]
        dsimp only
        omega

section
variable {w : World} {ld : Int → Int × Int} {n f p : Nat}

theorem lassigned_calls (hd : LdOk ld) (hn : InL n) (hf : (Nat.ble cx.lo f && Nat.blt f cx.hi) = true) (hl : IsLoad w f p ld) (k : Int) :
    Calls cx.P 60 #[.func (.func f) #[.pointer (some ⟨p, 0, none⟩)] #[], .agg (lcs n).toArray, .int .i64 k] w (Ret fun v w' => v = .tuple #[.int .i64 (assignedL ld n k).1, .int .i64 (assignedL ld n k).2] ∧ Tr [] w w') := by
  have hc := hn.chunks
  refine calls_body cx_ok (args := [.func (.func f) #[.pointer (some ⟨p, 0, none⟩)] #[], .agg (lcs n).toArray, .int .i64 k]) Tryz.func60 rfl 39 rfl rfl [.tmp 6, .tmp 7] rfl ?_
  intro b w1 n1
  have B : Blk w1 b (lcs n) 28 := n1.blk
  unfold assignedL
  refine ⟨fun h0 => ?_, fun h0 => ⟨_, B.cell rfl, fun h1 => ?_, fun h1 => ?_⟩⟩
  · rw [if_pos (.inl h0)]; exact ⟨rfl, n1.tr⟩
  · rw [if_pos (.inr h1)]; exact ⟨rfl, n1.tr⟩
  · rw [if_neg (by omega)]
    refine ⟨_, B.cell rfl, 112, by decide, (112 + k), by rw [w64 (by omega)], ?_⟩
    refine callG_intro hf (call (hl w1 (112 + k) n1.tr (by unfold inI64; omega)) ?_)
    have hx5 := hd (112 + k) (by unfold inI64; omega)
    generalize ld (112 + k) = x at *
    rintro _ w2 ⟨rfl, t2⟩
    have t12 := n1.tr.ext t2
    refine ⟨fun he => ⟨fun h5 => ?_, fun h5 => ?_⟩, fun he => ?_⟩
    · rw [if_neg (fun h => h he), if_pos h5]
      exact ⟨fun h => absurd (h : (3 : Int) = 0) (by decide), fun _ => ⟨rfl, t12⟩⟩
    · rw [if_neg (fun h => h he), if_neg h5]
      refine ⟨fun _ => ?_, fun h => absurd he h⟩
      exact ⟨(x.1 - 1), by rw [w64 (by omega)], rfl, t12⟩
    · rw [if_pos he]
      exact ⟨fun h => absurd h he, fun _ => ⟨rfl, t12⟩⟩

theorem sassigned_calls (hd : LdOk ld) (hn : InL n) (hl : IsLoad w 77 p ld) (k : Int) :
    Calls cx.P 61 #[.pointer (some ⟨p, 0, none⟩), .agg (lcs n).toArray, .int .i64 k] w (Ret fun v w' => v = .tuple #[.int .i64 (assignedL ld n k).1, .int .i64 (assignedL ld n k).2] ∧ Tr [] w w') := by
  have hc := hn.chunks
  refine calls_body cx_ok (args := [.pointer (some ⟨p, 0, none⟩), .agg (lcs n).toArray, .int .i64 k]) Tryz.func61 rfl 35 rfl rfl [.tmp 6, .tmp 7] rfl ?_
  intro b w1 n1
  have B : Blk w1 b (lcs n) 28 := n1.blk
  unfold assignedL
  refine ⟨fun h0 => ?_, fun h0 => ⟨_, B.cell rfl, fun h1 => ?_, fun h1 => ?_⟩⟩
  · rw [if_pos (.inl h0)]; exact ⟨rfl, n1.tr⟩
  · rw [if_pos (.inr h1)]; exact ⟨rfl, n1.tr⟩
  · rw [if_neg (by omega)]
    refine ⟨_, B.cell rfl, 112, by decide, (112 + k), by rw [w64 (by omega)], ?_⟩
    refine call (hl w1 (112 + k) n1.tr (by unfold inI64; omega)) ?_
    have hx5 := hd (112 + k) (by unfold inI64; omega)
    generalize ld (112 + k) = x at *
    rintro _ w2 ⟨rfl, t2⟩
    have t12 := n1.tr.ext t2
    refine ⟨fun he => ⟨fun h5 => ?_, fun h5 => ?_⟩, fun he => ?_⟩
    · rw [if_neg (fun h => h he), if_pos h5]
      exact ⟨rfl, t12⟩
    · rw [if_neg (fun h => h he), if_neg h5]
      exact ⟨(x.1 - 1), by rw [w64 (by omega)], rfl, t12⟩
    · rw [if_pos he]
      exact ⟨rfl, t12⟩

theorem proper_calls (hg : Gl w) (h c : Int) : Calls cx.P 108 #[.int .i64 h, .int .i64 c] w (Ret fun v w' => v = .bool (properP h c) ∧ Tr [] w w') := by
  refine calls_body cx_ok (args := [.int .i64 h, .int .i64 c]) Tryz.func108 rfl 28 rfl rfl [.tmp 4] rfl ?_
  refine ⟨fun h0 => ⟨by simp [properP, h0], Tr.refl _ _⟩, fun h0 => ?_⟩
  have tail : properP h c = (formedP h && decide (classP h = c) && (decide (kindP h = 0) || (decide (kindP h ≤ 6) && decide (0 < genP h)))) := by simp [properP, h0]
  rw [tail]
  refine call (Formed_calls h w hg) ?_
  rintro _ w1 ⟨rfl, t1⟩
  cases hf : formedP h with
  | false => exact ⟨rfl, t1⟩
  | true =>
  refine call (Class_calls h w1 (hg.ext t1)) ?_
  rintro _ w2 ⟨rfl, t2⟩
  have t12 := t1.ext t2
  refine ⟨fun h1 => ?_, fun h1 => ⟨by simp [h1], t12⟩⟩
  refine call (Kind_calls h w2 (hg.ext t12)) ?_
  rintro _ w3 ⟨rfl, t3⟩
  have t13 := t12.ext t3
  have h1' : classP h = c := h1
  refine ⟨fun h2 => ⟨by simp [h1', h2], t13⟩, fun h2 => ?_⟩
  refine call (Kind_calls h w3 (hg.ext t13)) ?_
  rintro _ w4 ⟨rfl, t4⟩
  have t14 := t13.ext t4
  refine ⟨fun h3 => ?_, fun h3 => ⟨by simp [h1', h2, h3], t14⟩⟩
  refine call (Generation_calls h w4 (hg.ext t14)) ?_
  rintro _ w5 ⟨rfl, t5⟩
  refine ⟨fun h4 => ⟨by simp [h1', h2, h3, h4], t14.ext t5⟩, fun h4 => ⟨by simp [h1', h2, h3, h4], t14.ext t5⟩⟩

theorem sproper_calls (h c : Int) : Calls cx.P 111 #[.int .i64 h, .int .i64 c] w (Ret fun v w' => v = .bool (properP h c) ∧ w = w') := by
  refine calls_body cx_ok (args := [.int .i64 h, .int .i64 c]) Tryz.func111 rfl 32 rfl rfl [.tmp 4] rfl ?_
  refine ⟨fun h0 => ⟨by simp [properP, h0], rfl⟩, fun h0 => ?_⟩
  have tail : properP h c = (formedP h && decide (classP h = c) && (decide (kindP h = 0) || (decide (kindP h ≤ 6) && decide (0 < genP h)))) := by simp [properP, h0]
  rw [tail]
  refine call (Formed07_calls h w) ?_
  rintro _ _ ⟨rfl, rfl⟩
  cases hf : formedP h with
  | false => exact ⟨rfl, rfl⟩
  | true =>
  refine call (Class07_calls h w) ?_
  rintro _ _ ⟨rfl, rfl⟩
  refine ⟨fun h1 => ?_, fun h1 => ⟨by simp [h1], rfl⟩⟩
  refine call (Kind07_calls h w) ?_
  rintro _ _ ⟨rfl, rfl⟩
  have h1' : classP h = c := h1
  refine ⟨fun h2 => ⟨by simp [h1', h2], rfl⟩, fun h2 => ⟨fun h3 => ?_, fun h3 => ⟨by simp [h1', h2, h3], rfl⟩⟩⟩
  refine call (Generation07_calls h w) ?_
  rintro _ _ ⟨rfl, rfl⟩
  refine ⟨fun h4 => ⟨by simp [h1', h2, h3]; omega, rfl⟩, fun h4 => ⟨by simp [h1', h2, h3]; omega, rfl⟩⟩

end

end Go.Proofs.YthepaakejpbppaaGreatDoor

/- class: block. -/
namespace Go.Proofs.YthepaakejpbppaaGreatDoor
open Go.E

section
variable {w : World} {ld : Int → Int × Int} {n f p : Nat}

theorem chunkP_ok {n : Nat} (_hn : InL n) {line : Int} (h : 0 ≤ chunkP n line) : 16 ≤ line ∧ line < 16 + 16 * (chunksN n : Int) ∧ chunkP n line = (line - 16) / 16 := by
  unfold chunkP at h ⊢
  by_cases h0 : line < 16 ∨ 16 + 16 * (chunksN n : Int) ≤ line
  · rw [if_pos h0] at h; exact absurd h (by decide)
  · rw [if_neg h0]; exact ⟨by omega, by omega, rfl⟩
theorem chunkP_i64 {n : Nat} (hn : InL n) {line : Int} : -1 ≤ chunkP n line ∧ chunkP n line < chunksN n := by
  have hc := hn.chunks
  unfold chunkP
  split <;> omega

theorem linesP_pos {c : Int} (h0 : 0 ≤ c) (h1 : c ≤ 4) : 1 ≤ linesP c ∧ linesP c ≤ 16 := by
  obtain ⟨e1, e2, e3⟩ := linesP_nat (c := c) (by omega) (by omega)
  rw [e1]; omega

theorem assignedL_neg {ld : Int → Int × Int} {n : Nat} {k : Int} (h : k < 0) : assignedL ld n k = (0, 1) := by unfold assignedL; rw [if_pos (.inl h)]

theorem bcells_one (b : BlkV) : (bcells b).all E.one = true := rfl

set_option maxHeartbeats 1000000 in
theorem lblock_calls (hg : Gl w) (hd : LdOk ld) (hn : InL n) (hf : (Nat.ble cx.lo f && Nat.blt f cx.hi) = true) (hl : IsLoad w f p ld) (line : Int) (hli : inI64 line) :
    Calls cx.P 67 #[.func (.func f) #[.pointer (some ⟨p, 0, none⟩)] #[], .agg (lcs n).toArray, .int .i64 line] w (Ret fun v w' => v = .tuple #[.agg (bcells (blockL ld n line).1).toArray, .int .i64 (blockL ld n line).2] ∧ Tr [] w w') := by
  have hc := hn.chunks
  refine calls_body cx_ok (args := [.func (.func f) #[.pointer (some ⟨p, 0, none⟩)] #[], .agg (lcs n).toArray, .int .i64 line]) Tryz.func67 rfl 63 rfl rfl [.cell 6 44, .tmp 7] rfl ?_
  intro b4 w1 n1 b6 w2 n2
  have e1 := n1.num; have e2 := n2.num; have z1 := n1.size; have z2 := n2.size
  have B4 : Blk w2 b4 (lcs n) 28 := (show Blk w1 b4 _ _ from n1.blk).ext n2.tr
  have B6 : Blk w2 b6 (bcells bz) 44 := n2.blk
  have t2 := n1.tr.ext n2.tr
  have fin : ∀ (r : BlkV) (e : Int) (W : World), Tr [] w2 W → blockL ld n line = (r, e) → StN W b6 0 4 (bcells r) fun W' => ∃ vs, Cells W' b6 0 vs ∧ vs.length = 4 ∧ (pack [.agg vs.toArray, .int .i64 e] = .tuple #[.agg (bcells (blockL ld n line).1).toArray, .int .i64 (blockL ld n line).2] ∧ Tr [] w W') := by
    intro r e W tW hb
    have zW := tW.size
    refine ⟨_, _, B6.ext tW, rfl, by show 0 + 4 ≤ 4; decide, rfl, fun W' u => ⟨_, u.blk.all, rfl, ?_, u.ext (t2.ext tW) (by omega)⟩⟩
    rw [hb]; rfl
  refine draw_rule cx_ok [] (Plan.takes [0, 1, 2, 3] (.one true 4 (.one true 5 (Plan.takes [6, 7, 8, 9, 10] .done)))) (by kernel_rfl) ?_
  intro w3 d
  refine ⟨_, fun w' t => B4.all.tr t (by simp), rfl, _, fun w' t => B4.all.tr t (by simp), rfl, ?_⟩
  refine ⟨?_, trivial⟩
  refine call (Chunk_calls n hn line hli w3) ?_
  rintro _ w4 ⟨rfl, t4⟩
  refine ⟨d.tr.ext t4, ?_⟩
  refine ⟨?_, trivial⟩
  have t24 := d.tr.ext t4
  refine call (lassigned_calls hd hn hf (hl.ext (t2.ext t24)) (chunkP n line)) ?_
  rintro _ w5 ⟨rfl, t5⟩
  have t25 := t24.ext t5
  refine ⟨t25, ?_⟩
  have hrange := assignedL_range hd hn (chunkP n line)
  unfold blockL at fin ⊢
  generalize assignedL ld n (chunkP n line) = a at *
  refine ⟨fun he => ?_, fun he => ?_⟩
  · rw [if_neg (fun h => h he)] at *
    obtain ⟨r1, r2, r3, r4⟩ := hrange he
    obtain ⟨c1, c2, c3⟩ := chunkP_ok hn r3
    refine draw_rule cx_ok [] (Plan.takes [0, 1, 2, 3, 4, 5, 6, 7] (.one true 8 (Plan.takes [9, 10, 11] .done))) (by kernel_rfl) ?_
    intro w6 d6
    have t26 := t25.ext d6.tr
    refine ⟨fun hm => ?_, fun hm => ?_⟩
    · refine ⟨⟨d6.tr, ?_⟩, trivial⟩
      rw [if_pos (.inl hm)] at *
      exact ⟨_, rfl, fin bz 1 w6 t26 rfl⟩
    · refine ⟨_, fun w' t => t.cell ((B4.ext t25).cell rfl) (by simp), (line - 16), by rw [w64 (by omega)], ?_⟩
      refine ⟨?_, trivial⟩
      refine call (Lines_calls a.1 w6) ?_
      rintro _ _ ⟨rfl, rfl⟩
      have hlp := linesP_pos (c := a.1) (by omega) (by omega)
      refine ⟨d6.tr, ?_⟩
      refine ⟨(line - 16) % linesP a.1, by omega, IntWalk.rem_in _ _ (by omega), fun hr => ?_, fun hr => ?_⟩
      · rw [if_neg (by rintro (h | h); exact hm h; exact h hr)] at *
        refine ⟨(8 * line), by rw [w64 (by omega)], ?_⟩
        refine callG_intro hf (call (hl w6 (8 * line) (t2.ext t26) (by unfold inI64; omega)) ?_)
        generalize ld (8 * line) = h at *
        rintro _ w7 ⟨rfl, t7⟩
        have t27 := t26.ext t7
        refine ⟨fun h0 => ?_, fun h0 => ?_⟩
        · rw [if_neg (fun h => h h0)] at *
          refine call (proper_calls (hg.ext (t2.ext t27)) h.1 a.1) ?_
          rintro _ w8 ⟨rfl, t8⟩
          have t28 := t27.ext t8
          cases hp : properP h.1 a.1 with
          | false =>
            have fin' := fin bz 3 w8 t28 (by rw [if_pos hp])
            rw [if_pos hp] at fin'
            refine ⟨fun h3 => absurd (h3 : (3 : Int) = 0) (by decide), fun _ => ?_⟩
            exact ⟨_, rfl, fin'⟩
          | true =>
            have hpn : ¬ properP h.1 a.1 = false := by rw [hp]; decide
            rw [if_neg hpn] at fin
            refine ⟨fun _ => ?_, fun h3 => absurd h0 h3⟩
            refine call (Kind_calls h.1 w8 (hg.ext (t2.ext t28))) ?_
            rintro _ w9 ⟨rfl, t9⟩
            have t29 := t28.ext t9
            refine call (Generation_calls h.1 w9 (hg.ext (t2.ext t29))) ?_
            rintro _ w10 ⟨rfl, t10⟩
            exact ⟨_, rfl, fin (line, a.1, kindP h.1, genP h.1) 0 w10 (t29.ext t10) rfl⟩
        · rw [if_pos h0] at *
          refine ⟨fun h3 => absurd h3 h0, fun _ => ?_⟩
          exact ⟨_, rfl, fin bz h.2 w7 t27 rfl⟩
      · rw [if_pos (.inr hr)] at *
        exact ⟨_, rfl, fin bz 1 w6 t26 rfl⟩
  · rw [if_pos he] at *
    exact ⟨_, rfl, fin bz a.2 w5 t25 rfl⟩

set_option maxHeartbeats 1000000 in
theorem sblock_calls (hd : LdOk ld) (hn : InL n) (hl : IsLoad w 77 p ld) (line : Int) (hli : inI64 line) :
    Calls cx.P 68 #[.pointer (some ⟨p, 0, none⟩), .agg (lcs n).toArray, .int .i64 line] w (Ret fun v w' => v = .tuple #[.agg (bcells (blockL ld n line).1).toArray, .int .i64 (blockL ld n line).2] ∧ Tr [] w w') := by
  have hc := hn.chunks
  refine calls_body cx_ok (args := [.pointer (some ⟨p, 0, none⟩), .agg (lcs n).toArray, .int .i64 line]) Tryz.func68 rfl 68 rfl rfl [.cell 6 44, .tmp 7] rfl ?_
  intro b4 w1 n1 b6 w2 n2
  have e1 := n1.num; have e2 := n2.num; have z1 := n1.size; have z2 := n2.size
  have B4 : Blk w2 b4 (lcs n) 28 := (show Blk w1 b4 _ _ from n1.blk).ext n2.tr
  have B6 : Blk w2 b6 (bcells bz) 44 := n2.blk
  have t2 := n1.tr.ext n2.tr
  have fin : ∀ (r : BlkV) (e : Int) (W : World), Tr [] w2 W → blockL ld n line = (r, e) → StN W b6 0 4 (bcells r) fun W' => ∃ vs, Cells W' b6 0 vs ∧ vs.length = 4 ∧ (pack [.agg vs.toArray, .int .i64 e] = .tuple #[.agg (bcells (blockL ld n line).1).toArray, .int .i64 (blockL ld n line).2] ∧ Tr [] w W') := by
    intro r e W tW hb
    have zW := tW.size
    refine ⟨_, _, B6.ext tW, rfl, by show 0 + 4 ≤ 4; decide, rfl, fun W' u => ⟨_, u.blk.all, rfl, ?_, u.ext (t2.ext tW) (by omega)⟩⟩
    rw [hb]; rfl
  refine ⟨_, B4.all, rfl, ?_⟩
  refine call (Chunk07_calls n hn line hli w2) ?_
  rintro _ w4 ⟨rfl, t4⟩
  refine ⟨fun hneg => ?_, fun hneg => ?_⟩
  · have hb : blockL ld n line = (bz, 1) := by
      unfold blockL
      rw [assignedL_neg hneg]
      rfl
    exact ⟨_, rfl, fin bz 1 w4 t4 hb⟩
  refine ⟨_, (B4.ext t4).all, rfl, ?_⟩
  refine call (sassigned_calls hd hn (hl.ext (t2.ext t4)) (chunkP n line)) ?_
  rintro _ w5 ⟨rfl, t5⟩
  have t25 := t4.ext t5
  have hrange := assignedL_range hd hn (chunkP n line)
  unfold blockL at fin ⊢
  generalize assignedL ld n (chunkP n line) = a at *
  refine ⟨fun he => ?_, fun he => ?_⟩
  · rw [if_neg (fun h => h he)] at *
    obtain ⟨r1, r2, r3, r4⟩ := hrange he
    obtain ⟨c1, c2, c3⟩ := chunkP_ok hn r3
    refine draw_rule cx_ok [] (Plan.takes [0, 1, 2, 3, 4, 5, 6, 7] (.one true 8 (Plan.takes [9, 10, 11] .done))) (by kernel_rfl) ?_
    intro w6 d6
    have t26 := t25.ext d6.tr
    refine ⟨fun hm => ?_, fun hm => ?_⟩
    · refine ⟨⟨d6.tr, ?_⟩, trivial⟩
      rw [if_pos (.inl (by omega))] at *
      exact ⟨_, rfl, fin bz 1 w6 t26 rfl⟩
    · refine ⟨_, fun w' t => t.cell ((B4.ext t25).cell rfl) (by simp), (line - 16), by rw [w64 (by omega)], ?_⟩
      refine ⟨?_, trivial⟩
      refine call (Lines07_calls a.1 w6) ?_
      rintro _ _ ⟨rfl, rfl⟩
      have hlp := linesP_pos (c := a.1) (by omega) (by omega)
      refine ⟨d6.tr, ?_⟩
      refine ⟨(line - 16) % linesP a.1, by omega, IntWalk.rem_in _ _ (by omega), fun hr => ?_, fun hr => ?_⟩
      · rw [if_neg (by rintro (h | h); exact hm (by omega); exact h hr)] at *
        refine ⟨(8 * line), by rw [w64 (by omega)], ?_⟩
        refine call (hl w6 (8 * line) (t2.ext t26) (by unfold inI64; omega)) ?_
        generalize ld (8 * line) = h at *
        rintro _ w7 ⟨rfl, t7⟩
        have t27 := t26.ext t7
        refine ⟨fun h0 => ?_, fun h0 => ?_⟩
        · rw [if_neg (fun h => h h0)] at *
          refine call (sproper_calls h.1 a.1) ?_
          rintro _ _ ⟨rfl, rfl⟩
          cases hp : properP h.1 a.1 with
          | false =>
            have fin' := fin bz 3 w7 t27 (by rw [if_pos hp])
            rw [if_pos hp] at fin'
            exact ⟨_, rfl, fin'⟩
          | true =>
            have hpn : ¬ properP h.1 a.1 = false := by rw [hp]; decide
            rw [if_neg hpn] at fin
            refine call (Kind07_calls h.1 w7) ?_
            rintro _ _ ⟨rfl, rfl⟩
            refine call (Generation07_calls h.1 w7) ?_
            rintro _ _ ⟨rfl, rfl⟩
            exact ⟨_, rfl, fin (line, a.1, kindP h.1, genP h.1) 0 w7 t27 rfl⟩
        · rw [if_pos h0] at *
          exact ⟨_, rfl, fin bz h.2 w7 t27 rfl⟩
      · rw [if_pos (.inr hr)] at *
        exact ⟨_, rfl, fin bz 1 w6 t26 rfl⟩
  · rw [if_pos he] at *
    exact ⟨_, rfl, fin bz a.2 w5 t25 rfl⟩

end

end Go.Proofs.YthepaakejpbppaaGreatDoor

/- class: Assigned, Block, Starts, Of, Room. -/
namespace Go.Proofs.YthepaakejpbppaaGreatDoor
open Go.E

theorem getD_word {ws : List Nat} (h : Line8 ws) {j : Nat} (hj : j < 8) : ws.getD j 0 < 2 ^ 40 := by
  obtain ⟨x, hx, hx40, hgd, _⟩ := h.at hj
  rw [hgd]; exact hx40

theorem i64_0 : inI64 0 := ⟨by decide, by decide⟩
theorem i64_9 : inI64 9 := ⟨by decide, by decide⟩
theorem i64_40 : inI64 40 := ⟨by decide, by decide⟩

theorem loadL_ok {L : List Ln} (h : LOk L) : LdOk (loadL L) := by
  intro a _
  unfold loadL
  by_cases hin : 0 ≤ a ∧ a < 8 * L.length
  · rw [if_neg (fun h => h hin)]
    have hl := h _ (lnAt_mem (L := L) (i := a.toNat / 8) (by omega))
    cases hs : (lnAt L (a.toNat / 8)).shows (lnAt L (a.toNat / 8)).pend.length with
    | none => exact (show (0 : Int) ≤ 0 ∧ (0 : Int) ≤ 1099511627775 ∧ inI64 9 from ⟨by decide, by decide, i64_9⟩)
    | some ws =>
      have := getD_word (hl.shows hs) (j := a.toNat % 8) (by omega)
      exact ⟨by dsimp only; omega, by dsimp only; omega, i64_0⟩
  · rw [if_pos hin]
    exact ⟨by decide, by decide, i64_40⟩

theorem viewL_ok {E : List (Int × Int)} {ld : Int → Int × Int} (h : LdOk ld) (hE : ∀ e ∈ E, 0 ≤ e.2 ∧ e.2 ≤ 1099511627775) : LdOk (viewL E ld) := by
  intro a ha
  unfold viewL
  cases hl : lastE E a E.length with
  | none => exact h a ha
  | some v =>
    have := hE _ (lastE_in hl)
    exact ⟨this.1, this.2, i64_0⟩

theorem setE_all {n : Nat} {E : List (Int × Int)} (hE : ∀ e ∈ E, 0 ≤ e.2 ∧ e.2 ≤ 1099511627775) (a v : Int) : ∀ e ∈ setE n E a v, 0 ≤ e.2 ∧ e.2 ≤ 1099511627775 := by
  unfold setE
  split
  · rename_i h
    intro e he
    rcases List.mem_append.1 he with he | he
    · exact hE e he
    · simp at he; subst he; exact h.2
  · exact hE

def startsL (n : Nat) (k c : Int) : List Int := if k < 0 ∨ (chunksN n : Int) ≤ k ∨ c < 0 ∨ 4 < c then [] else (List.range (16 / 2 ^ c.toNat)).map fun j => 16 + 16 * k + ((j * 2 ^ c.toNat : Nat) : Int)

def stK (k : Int) (q j : Nat) : List Int := (List.range j).map fun j => 16 + 16 * k + ((j * q : Nat) : Int)
theorem stK_succ (k : Int) (q j : Nat) : stK k q (j + 1) = stK k q j ++ [16 + 16 * k + ((j * q : Nat) : Int)] := by simp [stK, List.range_succ]
theorem stK_len (k : Int) (q j : Nat) : (stK k q j).length = j := by simp [stK]
theorem pow_facts : ∀ c, c < 5 → 16 / 2 ^ c * 2 ^ c = 16 ∧ 1 ≤ 2 ^ c ∧ 2 ^ c ≤ 16 ∧ 16 / 2 ^ c ≤ 16 := by decide

def ofL (ld : Int → Int × Int) (n : Nat) (line : Int) : Int × Int :=
  if (assignedL ld n (chunkP n line)).2 ≠ 0 then (0, (assignedL ld n (chunkP n line)).2)
  else if (assignedL ld n (chunkP n line)).1 = -1 then (0, 1)
  else (line - (line - 16) % linesP (assignedL ld n (chunkP n line)).1, 0)

section
variable {w : World} {n p : Nat} {L : List Ln} {span N : Nat} {F : List Nat}

theorem IMem.load (h : IMem w p L span N F) (hg : Gl w) : IsLoad w 59 p (loadL L) := fun _W a tW ha => Load_gen (h.ext tW) (hg.ext tW) a ha
theorem RMem.load (h : RMem w p L span N F) : IsLoad w 103 p (loadL L) := fun _W a tW ha => Load04_gen (h.ext tW) a ha

theorem Assigned_calls (h : IMem w p L span N F) (hg : Gl w) (hn : InL n) (k : Int) :
    Calls cx.P 11 #[.pointer (some ⟨p, 0, none⟩), .agg (lcs n).toArray, .int .i64 k] w (Ret fun v w' => v = .tuple #[.int .i64 (assignedL (loadL L) n k).1, .int .i64 (assignedL (loadL L) n k).2] ∧ Tr [] w w') := by
  refine calls_body cx_ok (args := [.pointer (some ⟨p, 0, none⟩), .agg (lcs n).toArray, .int .i64 k]) Tryz.func11 rfl 15 rfl rfl [.tmp 6, .tmp 7] rfl ?_
  intro b w1 n1
  have B : Blk w1 b (lcs n) 28 := n1.blk
  refine ⟨_, B.all, rfl, ?_⟩
  refine call (lassigned_calls (loadL_ok h.ok) hn rfl ((h.load hg).ext n1.tr) k) ?_
  rintro _ w2 ⟨rfl, t2⟩
  exact ⟨rfl, n1.tr.ext t2⟩

theorem Block_calls (h : IMem w p L span N F) (hg : Gl w) (hn : InL n) (line : Int) (hli : inI64 line) :
    Calls cx.P 15 #[.pointer (some ⟨p, 0, none⟩), .agg (lcs n).toArray, .int .i64 line] w (Ret fun v w' => v = .tuple #[.agg (bcells (blockL (loadL L) n line).1).toArray, .int .i64 (blockL (loadL L) n line).2] ∧ Tr [] w w') := by
  refine calls_body cx_ok (args := [.pointer (some ⟨p, 0, none⟩), .agg (lcs n).toArray, .int .i64 line]) Tryz.func15 rfl 15 rfl rfl [.cell 6 44, .tmp 7] rfl ?_
  intro b w1 n1 b6 w2 n2
  have e1 := n1.num; have e2 := n2.num; have z1 := n1.size; have z2 := n2.size
  have B : Blk w2 b (lcs n) 28 := (show Blk w1 b _ _ from n1.blk).ext n2.tr
  refine ⟨_, B.all, rfl, ?_⟩
  refine call (lblock_calls (hg.ext (n1.tr.ext n2.tr)) (loadL_ok h.ok) hn rfl ((h.load hg).ext (n1.tr.ext n2.tr)) line hli) ?_
  rintro _ w3 ⟨rfl, t3⟩
  have z3 := t3.size
  refine ⟨_, _, (show Blk w2 b6 _ _ from n2.blk).ext t3, rfl, by show 0 + 4 ≤ 4; decide, rfl, fun W' u => ⟨_, u.blk.all, rfl, rfl, u.ext ((n1.tr.ext n2.tr).ext t3) (by omega)⟩⟩

theorem Assigned11_calls (h : RMem w p L span N F) (hn : InL n) (k : Int) :
    Calls cx.P 12 #[.pointer (some ⟨p, 0, none⟩), .agg (lcs n).toArray, .int .i64 k] w (Ret fun v w' => v = .tuple #[.int .i64 (assignedL (loadL L) n k).1, .int .i64 (assignedL (loadL L) n k).2] ∧ Tr [] w w') := by
  refine calls_body cx_ok (args := [.pointer (some ⟨p, 0, none⟩), .agg (lcs n).toArray, .int .i64 k]) Tryz.func12 rfl 15 rfl rfl [.tmp 6, .tmp 7] rfl ?_
  intro b w1 n1
  have B : Blk w1 b (lcs n) 28 := n1.blk
  refine draw_rule cx_ok [] (Plan.takes [0, 2, 3] (.one true 1 (.one true 4 (Plan.takes [5, 6, 7, 8] .done)))) (by kernel_rfl) ?_
  intro w2 d
  refine ⟨_, fun w' t => B.all.tr t (by simp), rfl, ?_⟩
  refine ⟨?_, trivial⟩
  refine call (Over10_calls w2 p) ?_
  rintro _ w3 ⟨t3, v, rfl, hv, _⟩
  have t23 := d.tr.ext t3
  refine ⟨t23, ?_⟩
  refine ⟨?_, trivial⟩
  have t03 := n1.tr.ext t23
  refine call (sassigned_calls (loadL_ok h.ok) hn (VLoad10_calls hv.rd (by decide) (h.load.ext t03)) k) ?_
  rintro _ w4 ⟨rfl, t4⟩
  exact ⟨t23.ext t4, rfl, t03.ext t4⟩

theorem Block11_calls (h : RMem w p L span N F) (hn : InL n) (line : Int) (hli : inI64 line) :
    Calls cx.P 16 #[.pointer (some ⟨p, 0, none⟩), .agg (lcs n).toArray, .int .i64 line] w (Ret fun v w' => v = .tuple #[.agg (bcells (blockL (loadL L) n line).1).toArray, .int .i64 (blockL (loadL L) n line).2] ∧ Tr [] w w') := by
  refine calls_body cx_ok (args := [.pointer (some ⟨p, 0, none⟩), .agg (lcs n).toArray, .int .i64 line]) Tryz.func16 rfl 15 rfl rfl [.cell 6 44, .tmp 7] rfl ?_
  intro b w1 n1 b6 w2 n2
  have e1 := n1.num; have e2 := n2.num; have z1 := n1.size; have z2 := n2.size
  have B : Blk w2 b (lcs n) 28 := (show Blk w1 b _ _ from n1.blk).ext n2.tr
  have B6 : Blk w2 b6 (bcells bz) 44 := n2.blk
  have t02 := n1.tr.ext n2.tr
  refine draw_rule cx_ok [b6] (Plan.takes [0, 2, 3] (.one true 1 (.one true 4 (Plan.takes [5, 6] (.one true 7 (Plan.takes [8] .done)))))) (by kernel_rfl) ?_
  intro w3 d
  refine ⟨_, fun w' t => B.all.tr t (by simp; omega), rfl, ?_⟩
  refine ⟨?_, trivial⟩
  refine call (Over10_calls w3 p) ?_
  rintro _ w4 ⟨t4, v, rfl, hv, _⟩
  have t24 := d.tr.ext t4
  refine ⟨t24.of_ext, ?_⟩
  refine ⟨?_, trivial⟩
  have t04 := t02.ext t24
  refine call (sblock_calls (loadL_ok h.ok) hn (VLoad10_calls hv.rd (by decide) (h.load.ext t04)) line hli) ?_
  rintro _ w5 ⟨rfl, t5⟩
  have t25 := t24.ext t5
  have z5 := t25.size
  refine ⟨t25.of_ext, ?_⟩
  refine ⟨⟨_, _, B6.ext t25, rfl, by show 0 + 4 ≤ 4; decide, rfl, fun W' u => ⟨t25.of_ext.trans u.tr (fun _ h => h) (fun _ h _ => h), _, u.blk.all, rfl, rfl, u.ext (t02.ext t25) (by omega)⟩⟩, trivial⟩

theorem Starts_calls (w : World) (hn : InL n) (k c : Int) (_hk : inI64 k) :
    Calls cx.P 46 #[.agg (lcs n).toArray, .int .i64 k, .int .i64 c] w (Ret fun v w' => Tr [] w w' ∧ Row w' 3 1 v (startsL n k c).length (i64s (startsL n k c)) ∧ ∀ b, v.ownBlock = some b → w.heap.size ≤ b) := by
  have hch := hn.chunks
  refine calls_body cx_ok (args := [.agg (lcs n).toArray, .int .i64 k, .int .i64 c]) Tryz.func46 rfl 43 rfl rfl [.tmp 6] rfl ?_
  intro b3 w1 n1
  have e1 := n1.num; have z1 := n1.size
  have B3 : Blk w1 b3 (lcs n) 28 := n1.blk
  have nil : ∀ W, Tr [] w W → startsL n k c = [] → (Tr [] w W ∧ Row W 3 1 (.slice none 0 0) (startsL n k c).length (i64s (startsL n k c)) ∧ ∀ b, (Value.slice none 0 0).ownBlock = some b → w.heap.size ≤ b) := by
    intro W t h
    rw [h]
    exact ⟨t, World.ownsRow_nil _ _ _ _, fun b hb => by simp [Value.ownBlock] at hb⟩
  refine call (Lines_calls c w1) ?_
  rintro _ _ ⟨rfl, rfl⟩
  refine ⟨fun h0 => ?_, fun h0 => ⟨fun h1 => ?_, fun h1 => ⟨_, B3.cell rfl, fun h2 => ?_, fun h2 => ?_⟩⟩⟩
  · refine nil w1 n1.tr ?_
    unfold startsL
    rw [if_pos]
    unfold linesP at h0
    split at h0
    · omega
    · have := Nat.two_pow_pos c.toNat; omega
  · refine nil w1 n1.tr ?_
    unfold startsL; rw [if_pos (.inl h1)]
  · refine nil w1 n1.tr ?_
    unfold startsL; rw [if_pos (.inr (.inl h2))]
  · have hc0 : ¬ (c < 0 ∨ 4 < c) := fun hh => h0 (by unfold linesP; rw [if_pos hh])
    have hst : startsL n k c = stK k (2 ^ c.toNat) (16 / 2 ^ c.toNat) := by unfold startsL; rw [if_neg (by omega)]; rfl
    obtain ⟨e, he1, he2⟩ := linesP_nat (c := c) (by omega) (by omega)
    obtain ⟨f1, f2, f3, f4⟩ := pow_facts c.toNat (by omega)
    rw [e, hst]
    generalize 2 ^ c.toNat = q at *
    refine ⟨((16 / q : Nat) : Int), by omega, by rw [IntWalk.i64_quo _ _ (by omega)]; rfl, ?_⟩
    generalize 16 / q = m at *
    refine loop_rule cx_ok (fun (x : Nat × Value) W => x.1 ≤ m ∧ Tr [] w1 W ∧ Row W 3 1 x.2 x.1 (i64s (stK k q x.1)) ∧ ∀ b, x.2.ownBlock = some b → w1.heap.size ≤ b) (fun x : Nat × Value => [(1, .int .i64 k), (3, .pointer (some ⟨b3, 0, none⟩)), (7, .int .i64 (q : Nat)), (8, x.2), (25, .int .i64 (m : Nat)), (26, .int .i64 (x.1 : Nat))]) (fun x => m - x.1) (0, .slice none 0 0) ⟨rfl, rfl, rfl, rfl, rfl, rfl, trivial⟩ ⟨by omega, Tr.refl _ _, World.ownsRow_nil _ _ _ _, fun b hb => by simp [Value.ownBlock] at hb⟩ ?_
    rintro ⟨j, v⟩ W ⟨hj, tW, RW, hv⟩
    dsimp only at hj RW hv
    have zW := tW.size
    refine ⟨fun hlt => ?_, fun hge => ?_⟩
    · have hjm : j < m := by omega
      have hs : (j + 1) * q = j * q + q := Nat.succ_mul j q
      have hle : (j + 1) * q ≤ m * q := Nat.mul_le_mul_right q hjm
      refine ⟨_, (B3.ext tW).cell rfl, (16 * k), by rw [w64 (by omega)], (16 + 16 * k), by rw [w64 (by omega)], ((j * q : Nat) : Int), by show IntKind.i64.wrap ((j : Int) * (q : Int)) = _; rw [← Int.natCast_mul]; exact w64 ⟨by omega, by omega⟩, (16 + 16 * k + ((j * q : Nat) : Int)), by rw [w64 (by omega)], _, rfl, fun b8 w8 n8 => ?_⟩
      have e8 := n8.num; have z8 := n8.size
      refine append_own cx_ok (x := ⟨1, 24, false, [.slice none 0 0], .slice 3⟩) rfl rfl rfl (by decide) (Row.tr RW n8.tr (by simp)) b8 0 1 1 [.int .i64 (16 + 16 * k + ((j * q : Nat) : Int))] rfl n8.blk.all rfl (by omega) (by decide) ?_
      intro v5 w5 hr5 t5 hat5 _
      refine ⟨((j + 1 : Nat) : Int), by rw [w64 (by omega)]; omega, ?_⟩
      refine ⟨rfl, (j + 1, v5), ⟨rfl, rfl, rfl, rfl, rfl, rfl, trivial⟩, ⟨hjm, ?_, ?_, fun b hb => ?_⟩, by dsimp only; omega⟩
      · exact (tW.ext n8.tr).trans t5 (fun _ h => h) (fun b hb hlt => by have := hv b (by simpa using hb); omega)
      · show Row w5 _ 1 v5 (j + 1) (i64s (stK k q (j + 1)))
        rw [stK_succ]
        unfold i64s at hr5 ⊢
        rw [List.map_append]
        exact hr5
      · rcases hat5 with h | h
        · exact hv b (h ▸ hb)
        · rw [h] at hb; have := Option.some.inj hb; omega
    · obtain rfl : j = m := by omega
      refine ⟨n1.tr.ext tW, ?_, fun b hb => by have := hv b hb; omega⟩
      rw [stK_len]
      exact RW

theorem Starts11_calls (w : World) (hn : InL n) (k c : Int) (_hk : inI64 k) :
    Calls cx.P 65 #[.agg (lcs n).toArray, .int .i64 k, .int .i64 c] w (Ret fun v w' => Tr [] w w' ∧ Row w' 3 1 v (startsL n k c).length (i64s (startsL n k c)) ∧ ∀ b, v.ownBlock = some b → w.heap.size ≤ b) := by
  have hch := hn.chunks
  refine calls_body cx_ok (args := [.agg (lcs n).toArray, .int .i64 k, .int .i64 c]) Tryz.func65 rfl 46 rfl rfl [.tmp 6] rfl ?_
  intro b3 w1 n1
  have e1 := n1.num; have z1 := n1.size
  have B3 : Blk w1 b3 (lcs n) 28 := n1.blk
  have nil : startsL n k c = [] → (Tr [] w w1 ∧ Row w1 3 1 (.slice none 0 0) (startsL n k c).length (i64s (startsL n k c)) ∧ ∀ b, (Value.slice none 0 0).ownBlock = some b → w.heap.size ≤ b) := by
    intro h
    rw [h]
    exact ⟨n1.tr, World.ownsRow_nil _ _ _ _, fun b hb => by simp [Value.ownBlock] at hb⟩
  refine ⟨fun h1 => ?_, fun h1 => ⟨_, B3.cell rfl, fun h2 => ?_, fun h2 => ⟨fun h3 => ?_, fun h3 => ⟨fun h4 => ?_, fun h4 => ?_⟩⟩⟩⟩
  · refine nil ?_
    unfold startsL; rw [if_pos (.inl h1)]
  · refine nil ?_
    unfold startsL; rw [if_pos (.inr (.inl h2))]
  · refine nil ?_
    unfold startsL; rw [if_pos (.inr (.inr (.inl h3)))]
  · refine nil ?_
    unfold startsL; rw [if_pos (.inr (.inr (.inr h4)))]
  · have hst : startsL n k c = stK k (2 ^ c.toNat) (16 / 2 ^ c.toNat) := by unfold startsL; rw [if_neg (by omega)]; rfl
    obtain ⟨e, he1, he2⟩ := linesP_nat (c := c) (by omega) (by omega)
    obtain ⟨f1, f2, f3, f4⟩ := pow_facts c.toNat (by omega)
    rw [hst]
    generalize 2 ^ c.toNat = q at *
    generalize 16 / q = m at *
    refine ⟨_, B3.cell rfl, (16 * k), by rw [w64 (by omega)], (16 + 16 * k), by rw [w64 (by omega)], ?_⟩
    refine loop_rule cx_ok (fun (x : Nat × Value) W => x.1 ≤ m ∧ Tr [] w1 W ∧ Row W 3 1 x.2 x.1 (i64s (stK k q x.1)) ∧ ∀ b, x.2.ownBlock = some b → w1.heap.size ≤ b) (fun x : Nat × Value => [(2, .int .i64 c), (3, .pointer (some ⟨b3, 0, none⟩)), (7, x.2), (8, .int .i64 (16 + 16 * k)), (9, .int .i64 (16 + 16 * k + ((x.1 * q : Nat) : Int)))]) (fun x => m - x.1) (0, .slice none 0 0) ⟨rfl, rfl, rfl, rfl, by dsimp only; simp; rfl, trivial⟩ ⟨by omega, Tr.refl _ _, World.ownsRow_nil _ _ _ _, fun b hb => by simp [Value.ownBlock] at hb⟩ ?_
    rintro ⟨j, v⟩ W ⟨hj, tW, RW, hv⟩
    dsimp only at hj RW hv
    have zW := tW.size
    have hle0 : j * q ≤ m * q := Nat.mul_le_mul_right q hj
    refine ⟨(16 + 16 * k + 16), by rw [w64 (by omega)], fun hlt => ?_, fun hge => ?_⟩
    · have hlt' : 16 + 16 * k + ((j * q : Nat) : Int) < 16 + 16 * k + 16 := hlt
      have hjm : j < m := by
        refine Nat.lt_of_le_of_ne hj fun e => ?_
        subst e
        omega
      have hs : (j + 1) * q = j * q + q := Nat.succ_mul j q
      have hle : (j + 1) * q ≤ m * q := Nat.mul_le_mul_right q hjm
      refine ⟨_, rfl, fun b8 w8 n8 => ?_⟩
      have e8 := n8.num; have z8 := n8.size
      refine append_own cx_ok (x := ⟨1, 24, false, [.slice none 0 0], .slice 3⟩) rfl rfl rfl (by decide) (Row.tr RW n8.tr (by simp)) b8 0 1 1 [.int .i64 (16 + 16 * k + ((j * q : Nat) : Int))] rfl n8.blk.all rfl (by omega) (by decide) ?_
      intro v5 w5 hr5 t5 hat5 _
      refine call (Lines07_calls c w5) ?_
      rintro _ _ ⟨rfl, rfl⟩
      refine ⟨(16 + 16 * k + (((j + 1) * q : Nat) : Int)), by rw [e]; show IntKind.i64.wrap (16 + 16 * k + ((j * q : Nat) : Int) + (q : Nat)) = _; rw [w64 (by omega)]; omega, ?_⟩
      refine ⟨rfl, (j + 1, v5), ⟨rfl, rfl, rfl, rfl, rfl, trivial⟩, ⟨hjm, ?_, ?_, fun b hb => ?_⟩, by dsimp only; omega⟩
      · exact (tW.ext n8.tr).trans t5 (fun _ h => h) (fun b hb hlt => by have := hv b (by simpa using hb); omega)
      · show Row w5 _ 1 v5 (j + 1) (i64s (stK k q (j + 1)))
        rw [stK_succ]
        unfold i64s at hr5 ⊢
        rw [List.map_append]
        exact hr5
      · rcases hat5 with h | h
        · exact hv b (h ▸ hb)
        · rw [h] at hb; have := Option.some.inj hb; omega
    · have hge' : ¬ 16 + 16 * k + ((j * q : Nat) : Int) < 16 + 16 * k + 16 := hge
      obtain rfl : j = m := by
        refine Nat.le_antisymm hj ?_
        refine Nat.le_of_not_lt fun h => ?_
        have hs : (j + 1) * q = j * q + q := Nat.succ_mul j q
        have hle : (j + 1) * q ≤ m * q := Nat.mul_le_mul_right q h
        omega
      refine ⟨n1.tr.ext tW, ?_, fun b hb => by have := hv b hb; omega⟩
      rw [stK_len]
      exact RW

def roomP (c : Int) : Int := if c < 0 ∨ 4 < c then 0 else 8 * linesP c - 1

theorem Room_calls (c : Int) (w : World) : Calls cx.P 45 #[.int .i64 c] w (Ret fun v w' => v = .int .i64 (roomP c) ∧ w = w') := by
  refine calls_body cx_ok (args := [.int .i64 c]) Tryz.func45 rfl 11 rfl rfl [.tmp 2] rfl ?_
  refine call (Lines_calls c w) ?_
  rintro _ _ ⟨rfl, rfl⟩
  unfold roomP
  by_cases h : c < 0 ∨ 4 < c
  · have h0 : linesP c = 0 := by unfold linesP; rw [if_pos h]
    rw [if_pos h, h0]
    exact ⟨fun h => absurd h (by decide), fun _ => ⟨rfl, rfl⟩⟩
  · have := linesP_pos (c := c) (by omega) (by omega)
    rw [if_neg h]
    refine ⟨fun _ => ?_, fun h => absurd (show 0 < linesP c by omega) h⟩
    exact ⟨(8 * linesP c), by rw [w64 (by omega)], (8 * linesP c - 1), by rw [w64 (by omega)], rfl, rfl⟩

theorem Room11_calls (c : Int) (w : World) : Calls cx.P 76 #[.int .i64 c] w (Ret fun v w' => v = .int .i64 (roomP c) ∧ w = w') := by
  refine calls_body cx_ok (args := [.int .i64 c]) Tryz.func76 rfl 13 rfl rfl [.tmp 2] rfl ?_
  unfold roomP
  refine ⟨fun h0 => ?_, fun h0 => ⟨fun h1 => ?_, fun h1 => ?_⟩⟩
  · rw [if_pos (.inl h0)]; exact ⟨rfl, rfl⟩
  · rw [if_pos (.inr h1)]; exact ⟨rfl, rfl⟩
  · rw [if_neg (by omega)]
    have := linesP_pos (c := c) (by omega) (by omega)
    refine call (Lines07_calls c w) ?_
    rintro _ _ ⟨rfl, rfl⟩
    exact ⟨(8 * linesP c), by rw [w64 (by omega)], (8 * linesP c - 1), by rw [w64 (by omega)], rfl, rfl⟩

theorem Of_calls (h : IMem w p L span N F) (hg : Gl w) (hn : InL n) (line : Int) (hli : inI64 line) :
    Calls cx.P 13 #[.pointer (some ⟨p, 0, none⟩), .agg (lcs n).toArray, .int .i64 line] w (Ret fun v w' => v = .tuple #[.int .i64 (ofL (loadL L) n line).1, .int .i64 (ofL (loadL L) n line).2] ∧ Tr [] w w') := by
  have hch := hn.chunks
  refine calls_body cx_ok (args := [.pointer (some ⟨p, 0, none⟩), .agg (lcs n).toArray, .int .i64 line]) Tryz.func13 rfl 33 rfl rfl [.tmp 6, .tmp 7] rfl ?_
  intro b w1 n1
  have B : Blk w1 b (lcs n) 28 := n1.blk
  refine draw_rule cx_ok [] (Plan.takes [0, 1, 2, 3] (.one true 4 (.one true 5 (Plan.takes [6, 7, 8, 9, 10] .done)))) (by kernel_rfl) ?_
  intro w3 d
  refine ⟨_, fun w' t => B.all.tr t (by simp), rfl, _, fun w' t => B.all.tr t (by simp), rfl, ?_⟩
  refine ⟨?_, trivial⟩
  refine call (Chunk_calls n hn line hli w3) ?_
  rintro _ w4 ⟨rfl, t4⟩
  refine ⟨d.tr.ext t4, ?_⟩
  refine ⟨?_, trivial⟩
  have t14 := d.tr.ext t4
  have t04 := n1.tr.ext t14
  refine call (Assigned_calls (h.ext t04) (hg.ext t04) hn (chunkP n line)) ?_
  rintro _ w5 ⟨rfl, t5⟩
  refine ⟨t14.ext t5, ?_⟩
  have t15 := t14.ext t5
  have hrange := assignedL_range (loadL_ok h.ok) hn (chunkP n line)
  unfold ofL
  generalize assignedL (loadL L) n (chunkP n line) = a at *
  refine ⟨fun he => ?_, fun he => ?_⟩
  · rw [if_neg (fun h => h he)]
    obtain ⟨r1, r2, r3, r4⟩ := hrange he
    obtain ⟨c1, c2, c3⟩ := chunkP_ok hn r3
    refine ⟨fun hm => ?_, fun hm => ?_⟩
    · rw [if_pos hm]
      exact ⟨rfl, n1.tr.ext t15⟩
    · rw [if_neg hm]
      refine draw_rule cx_ok [] (Plan.takes [0, 1, 2, 3, 4, 5] (.one true 6 (Plan.takes [7, 8, 9, 10] .done))) (by kernel_rfl) ?_
      intro w6 d6
      have t16 := t15.ext d6.tr
      refine ⟨_, fun w' t => t.cell ((B.ext t15).cell rfl) (by simp), (line - 16), by rw [w64 (by omega)], ?_⟩
      refine ⟨?_, trivial⟩
      refine call (Lines_calls a.1 w6) ?_
      rintro _ _ ⟨rfl, rfl⟩
      have hlp := linesP_pos (c := a.1) (by omega) (by omega)
      refine ⟨d6.tr, ?_⟩
      have hmod := Int.emod_nonneg (line - 16) (show linesP a.1 ≠ 0 by omega)
      have hmod2 := Int.emod_lt_of_pos (line - 16) (show 0 < linesP a.1 by omega)
      exact ⟨(line - 16) % linesP a.1, by omega, IntWalk.rem_in _ _ (by omega), (line - (line - 16) % linesP a.1), by rw [w64 (by omega)], rfl, n1.tr.ext t16⟩
  · rw [if_pos he]
    exact ⟨rfl, n1.tr.ext t15⟩

end

end Go.Proofs.YthepaakejpbppaaGreatDoor

/- class: the specification's Of; Follow. -/
namespace Go.Proofs.YthepaakejpbppaaGreatDoor
open Go.E

theorem of_law {q m : Nat} (hq : q = 1 ∨ q = 2 ∨ q = 4 ∨ q = 8 ∨ q = 16) (hm : m * q = 16) {line k : Int} {i : Nat} (h0 : 16 + 16 * k + ((i * q : Nat) : Int) ≤ line) (h1 : line < 16 + 16 * k + ((i * q : Nat) : Int) + q) : line - (line - 16) % (q : Int) = 16 + 16 * k + ((i * q : Nat) : Int) := by
  rcases hq with rfl | rfl | rfl | rfl | rfl <;> omega

theorem pow_cases : ∀ c, c < 5 → 2 ^ c = 1 ∨ 2 ^ c = 2 ∨ 2 ^ c = 4 ∨ 2 ^ c = 8 ∨ 2 ^ c = 16 := by decide

theorem stK_get {k : Int} {q m j : Nat} (h : j < m) : (stK k q m)[j]? = some (16 + 16 * k + ((j * q : Nat) : Int)) := by
  unfold stK
  rw [List.getElem?_map, List.getElem?_range h]
  rfl

def followL (ld : Int → Int × Int) (n : Nat) (p : Int) : BlkV × Int :=
  if p = 0 ∨ rightP p = false then (bz, 1)
  else if (blockL ld n (lineP p)).2 ≠ 0 then (bz, (blockL ld n (lineP p)).2)
  else if (blockL ld n (lineP p)).1.2.2.1 = 0 ∨ (blockL ld n (lineP p)).1.2.2.2 ≠ pgenP p then (bz, 70)
  else ((blockL ld n (lineP p)).1, 0)

theorem lineP_i64 {p : Int} (_hp : inI64 p) : inI64 (lineP p) := by
  unfold inI64 at *; unfold lineP
  split <;> omega

section
variable {w : World} {n p : Nat} {L : List Ln} {span N : Nat} {F : List Nat}

theorem Of11_calls (h : RMem w p L span N F) (hn : InL n) (line : Int) (hli : inI64 line) :
    Calls cx.P 14 #[.pointer (some ⟨p, 0, none⟩), .agg (lcs n).toArray, .int .i64 line] w (Ret fun v w' => v = .tuple #[.int .i64 (ofL (loadL L) n line).1, .int .i64 (ofL (loadL L) n line).2] ∧ Tr [] w w') := by
  have hch := hn.chunks
  refine calls_body cx_ok (args := [.pointer (some ⟨p, 0, none⟩), .agg (lcs n).toArray, .int .i64 line]) Tryz.func14 rfl 59 rfl rfl [.tmp 6, .tmp 7] rfl ?_
  intro b w1 n1
  have B : Blk w1 b (lcs n) 28 := n1.blk
  refine ⟨_, B.all, rfl, ?_⟩
  refine call (Chunk07_calls n hn line hli w1) ?_
  rintro _ w2 ⟨rfl, t2⟩
  have t02 := n1.tr.ext t2
  refine ⟨fun hneg => ?_, fun hneg => ?_⟩
  · unfold ofL
    rw [assignedL_neg hneg]
    exact ⟨rfl, t02⟩
  refine ⟨_, (B.ext t2).all, rfl, ?_⟩
  refine call (Assigned11_calls (h.ext t02) hn (chunkP n line)) ?_
  rintro _ w5 ⟨rfl, t5⟩
  have t15 := t2.ext t5
  have hrange := assignedL_range (loadL_ok h.ok) hn (chunkP n line)
  unfold ofL
  obtain ⟨c1, c2, c3⟩ := chunkP_ok hn (show 0 ≤ chunkP n line by omega)
  generalize assignedL (loadL L) n (chunkP n line) = a at *
  refine ⟨fun he => ?_, fun he => ?_⟩
  · rw [if_neg (fun h => h he)]
    obtain ⟨r1, r2, r3, r4⟩ := hrange he
    refine ⟨_, (B.ext t15).all, rfl, ?_⟩
    obtain ⟨k, hk⟩ : ∃ k, k = chunkP n line := ⟨_, rfl⟩
    have hk2 : k = (line - 16) / 16 := hk.trans c3
    rw [← hk] at r3 r4 ⊢
    clear hk c3
    refine call (Starts11_calls w5 hn k a.1 (by unfold inI64; omega)) ?_
    rintro v w6 ⟨t6, hr6, hf6⟩
    have t16 := t15.ext t6
    by_cases hm : a.1 = -1
    · have hs : startsL n k a.1 = [] := by unfold startsL; rw [if_pos (.inr (.inr (.inl (by omega))))]
      rw [hs] at hr6
      obtain ⟨ad, c, rfl⟩ := Row.slice hr6
      refine loop_rule cx_ok (fun (i : Nat) W => i = 0 ∧ w6 = W) (fun i : Nat => [(11, .slice ad 0 c), (12, .int .i64 (i : Nat))]) (fun i => i) 0 ⟨rfl, rfl, trivial⟩ ⟨rfl, rfl⟩ ?_
      rintro i _ ⟨rfl, rfl⟩
      rw [if_pos hm]
      exact ⟨fun h => absurd h (by decide), fun _ => ⟨rfl, n1.tr.ext t16⟩⟩
    · obtain ⟨e, he1, he2⟩ := linesP_nat (c := a.1) (by omega) (by omega)
      obtain ⟨f1, f2, f3, f4⟩ := pow_facts a.1.toNat (by omega)
      have hq := pow_cases a.1.toNat (by omega)
      have hst : startsL n k a.1 = stK k (2 ^ a.1.toNat) (16 / 2 ^ a.1.toNat) := by unfold startsL; rw [if_neg (by omega)]; rfl
      rw [hst, stK_len] at hr6
      generalize 2 ^ a.1.toNat = q at *
      generalize 16 / q = m at *
      obtain ⟨ad, c, rfl⟩ := Row.slice hr6
      rcases Row.elem hr6 with ⟨_, hm0⟩ | ⟨g, cap, hv, _, _, hcs⟩
      · subst hm0; omega
      obtain ⟨rfl, _, rfl⟩ := Value.slice.inj hv
      rw [if_neg hm, e]
      refine loop_rule cx_ok (fun (i : Nat) W => (i ≤ m ∧ 16 + 16 * k + ((i * q : Nat) : Int) ≤ line) ∧ Tr [] w6 W) (fun i : Nat => [(2, .int .i64 line), (9, .int .i64 a.1), (11, .slice (some ⟨g, 0, none⟩) m c), (12, .int .i64 (i : Nat))]) (fun i => m - i) 0 ⟨rfl, rfl, rfl, rfl, trivial⟩ ⟨⟨by omega, by simp; omega⟩, Tr.refl _ _⟩ ?_
      rintro i W ⟨⟨hi, hle⟩, tW⟩
      refine ⟨fun hlt => ?_, fun hge => ?_⟩
      · have him : i < m := by omega
        have hcell : W.cell? ⟨g, 0 + i * 1, none⟩ = some (.int .i64 (16 + 16 * k + ((i * q : Nat) : Int))) := by
          have := tW.cell (hcs i _ (by unfold i64s; rw [List.getElem?_map, stK_get him]; rfl)) (by simp)
          rw [show 0 + i * 1 = 0 + i by omega]; exact this
        have hs : (i + 1) * q = i * q + q := Nat.succ_mul i q
        have hle2 : (i + 1) * q ≤ m * q := Nat.mul_le_mul_right q him
        refine draw_rule cx_ok [] (Plan.takes [0, 1, 2, 3, 4, 5, 6, 7, 8, 9, 10, 11, 12] (.one true 13 (Plan.takes [14, 15, 16] .done))) (by kernel_rfl) ?_
        intro W1 d
        refine ⟨i, rfl, him, _, fun w' t => t.cell hcell (by simp), fun _ => ?_, fun hn => absurd hle hn⟩
        refine ⟨i, rfl, him, _, fun w' t => t.cell hcell (by simp), ?_⟩
        refine ⟨?_, trivial⟩
        refine call (Lines07_calls a.1 W1) ?_
        rintro _ _ ⟨rfl, rfl⟩
        refine ⟨d.tr, ?_⟩
        rw [e]
        refine ⟨(16 + 16 * k + ((i * q : Nat) : Int) + q), by rw [w64 (by omega)], fun hlt2 => ?_, fun hge2 => ?_⟩
        · refine ⟨i, rfl, him, _, d.tr.cell hcell (by simp), ?_⟩
          rw [of_law hq f1 hle hlt2]
          exact ⟨rfl, (n1.tr.ext t16).ext (tW.ext d.tr)⟩
        · refine ⟨((i + 1 : Nat) : Int), by rw [w64 (by omega)]; omega, ?_⟩
          exact ⟨rfl, i + 1, ⟨rfl, rfl, rfl, rfl, trivial⟩, ⟨⟨him, by omega⟩, tW.ext d.tr⟩, by omega⟩
      · obtain rfl : i = m := by omega
        omega
  · rw [if_pos he]
    exact ⟨rfl, n1.tr.ext t15⟩

end

section
variable {w : World} {ld : Int → Int × Int} {n v : Nat}

set_option maxHeartbeats 2000000 in
theorem Follow_calls (hg : Gl w) (hd : LdOk ld) (hn : InL n) (hl : IsLoad w 70 v ld) (p : Int) (hp : inI64 p) :
    Calls cx.P 17 #[.pointer (some ⟨v, 0, none⟩), .agg (lcs n).toArray, .int .i64 p] w (Ret fun x w' => x = .tuple #[.agg (bcells (followL ld n p).1).toArray, .int .i64 (followL ld n p).2] ∧ Tr [] w w') := by
  refine calls_body cx_ok (args := [.pointer (some ⟨v, 0, none⟩), .agg (lcs n).toArray, .int .i64 p]) Tryz.func17 rfl 46 rfl rfl [.cell 6 44, .tmp 7] rfl ?_
  intro b4 w1 n1 b6 w2 n2
  have e1 := n1.num; have e2 := n2.num; have z1 := n1.size; have z2 := n2.size
  have B4 : Blk w2 b4 (lcs n) 28 := (show Blk w1 b4 _ _ from n1.blk).ext n2.tr
  have B6 : Blk w2 b6 (bcells bz) 44 := n2.blk
  have t2 := n1.tr.ext n2.tr
  have fin : ∀ (r : BlkV) (e : Int) (W : World), Tr [] w2 W → followL ld n p = (r, e) → StN W b6 0 4 (bcells r) fun W' => ∃ vs, Cells W' b6 0 vs ∧ vs.length = 4 ∧ (pack [.agg vs.toArray, .int .i64 e] = .tuple #[.agg (bcells (followL ld n p).1).toArray, .int .i64 (followL ld n p).2] ∧ Tr [] w W') := by
    intro r e W tW hb
    have zW := tW.size
    refine ⟨_, _, B6.ext tW, rfl, by show 0 + 4 ≤ 4; decide, rfl, fun W' u => ⟨_, u.blk.all, rfl, ?_, u.ext (t2.ext tW) (by omega)⟩⟩
    rw [hb]; rfl
  refine ⟨fun h0 => ?_, fun h0 => ?_⟩
  · exact ⟨_, rfl, fin bz 1 w2 (Tr.refl _ _) (by unfold followL; rw [if_pos (.inl h0)])⟩
  refine call (Right_calls p w2 (hg.ext t2)) ?_
  rintro _ w3 ⟨rfl, t3⟩
  cases hr : rightP p with
  | false => exact ⟨_, rfl, fin bz 1 w3 t3 (by unfold followL; rw [if_pos (.inr hr)])⟩
  | true =>
  have hfl : followL ld n p = if (blockL ld n (lineP p)).2 ≠ 0 then (bz, (blockL ld n (lineP p)).2)
      else if (blockL ld n (lineP p)).1.2.2.1 = 0 ∨ (blockL ld n (lineP p)).1.2.2.2 ≠ pgenP p then (bz, 70)
      else ((blockL ld n (lineP p)).1, 0) := by unfold followL; rw [if_neg (by rw [hr]; simp [h0])]
  refine cut_rule (α := Nat) (fun b8 => [(0, .pointer (some ⟨v, 0, none⟩)), (2, .int .i64 p), (4, .pointer (some ⟨b4, 0, none⟩)), (6, .pointer (some ⟨b6, 0, none⟩)), (8, .pointer (some ⟨b8, 0, none⟩)), (9, .int .i64 (blockL ld n (lineP p)).2)])
    (fun b8 W => Tr [] w3 W ∧ Blk W b8 (bcells (blockL ld n (lineP p)).1) 44 ∧ w3.heap.size ≤ b8) ?_ ?_
  · refine draw_rule cx_ok [] (Plan.takes [0, 1, 2, 3] (.alt true 4 (.alt true 5 (Plan.takes [6, 7, 8] (.one true 9 (.one true 10 (Plan.takes [11] .done)))) (.alt true 9 (.one true 5 (Plan.takes [6, 7, 8] (.one true 10 (Plan.takes [11] .done)))) .stop))
      (.alt true 9 (.one true 4 (.one true 5 (Plan.takes [6, 7, 8] (.one true 10 (Plan.takes [11] .done))))) .stop))) (by kernel_rfl) ?_
    intro w4 d
    have zd := d.tr.size
    refine ⟨_, fun w' t => (B4.ext t3).all.tr t (by simp), rfl, ?_⟩
    have hli := lineP_i64 hp
    have blk : ∀ W, Tr [] w3 W → Calls cx.P 67 #[.func (.func 70) #[.pointer (some ⟨v, 0, none⟩)] #[], .agg (lcs n).toArray, .int .i64 (lineP p)] W (Ret fun x w' => x = .tuple #[.agg (bcells (blockL ld n (lineP p)).1).toArray, .int .i64 (blockL ld n (lineP p)).2] ∧ Tr [] W w') := fun W t => lblock_calls (hg.ext ((t2.ext t3).ext t)) hd hn rfl (hl.ext ((t2.ext t3).ext t)) (lineP p) hli
    have lin : ∀ W, Tr [] w3 W → Calls cx.P 71 #[.int .i64 p] W (Ret fun x w' => x = .int .i64 (lineP p) ∧ Tr [] W w') := fun W t => Line_calls p W (hg.ext ((t2.ext t3).ext t))
    refine ⟨?_, ?_, trivial⟩
    · refine call (lin w4 d.tr) ?_
      rintro _ w5 ⟨rfl, t5⟩
      have t35 := d.tr.ext t5
      refine ⟨t35, ?_⟩
      refine ⟨?_, ?_, trivial⟩
      · refine call (blk w5 t35) ?_
        rintro _ w6 ⟨rfl, t6⟩
        have t36 := t35.ext t6
        have z6 := t36.size
        refine ⟨t36, ?_⟩
        refine ⟨?_, trivial⟩
        intro b8 w7 n7
        have e7 := n7.num; have z7 := n7.size
        refine ⟨t36.ext n7.tr, ?_⟩
        refine ⟨⟨_, _, n7.blk, rfl, by show 0 + 4 ≤ 4; decide, rfl, fun w8 u8 => ?_⟩, trivial⟩
        have t8 := u8.ext (t36.ext n7.tr) (by omega)
        exact ⟨t8, rfl, b8, ⟨rfl, rfl, rfl, rfl, rfl, rfl, trivial⟩, t8, u8.blk, by omega⟩
      · intro b8 w7 n7
        have e7 := n7.num; have z7 := n7.size; have z35 := t35.size
        have t37 := t35.ext n7.tr
        refine ⟨t37, ?_⟩
        refine ⟨?_, trivial⟩
        refine call (blk w7 t37) ?_
        rintro _ w6 ⟨rfl, t6⟩
        refine ⟨t37.ext t6, ?_⟩
        refine ⟨⟨_, _, (show Blk w7 b8 _ _ from n7.blk).ext t6, rfl, by show 0 + 4 ≤ 4; decide, rfl, fun w8 u8 => ?_⟩, trivial⟩
        have t8 := u8.ext (t37.ext t6) (by omega)
        exact ⟨t8, rfl, b8, ⟨rfl, rfl, rfl, rfl, rfl, rfl, trivial⟩, t8, u8.blk, by omega⟩
    · intro b8 w7 n7
      have e7 := n7.num; have z7 := n7.size
      have t37 := d.tr.ext n7.tr
      refine ⟨t37, ?_⟩
      refine ⟨?_, trivial⟩
      refine call (lin w7 t37) ?_
      rintro _ w5 ⟨rfl, t5⟩
      have t35 := t37.ext t5
      refine ⟨t35, ?_⟩
      refine ⟨?_, trivial⟩
      refine call (blk w5 t35) ?_
      rintro _ w6 ⟨rfl, t6⟩
      refine ⟨t35.ext t6, ?_⟩
      refine ⟨⟨_, _, (show Blk w7 b8 _ _ from n7.blk).ext (t5.ext t6), rfl, by show 0 + 4 ≤ 4; decide, rfl, fun w8 u8 => ?_⟩, trivial⟩
      have t8 := u8.ext (t35.ext t6) (by omega)
      exact ⟨t8, rfl, b8, ⟨rfl, rfl, rfl, rfl, rfl, rfl, trivial⟩, t8, u8.blk, by omega⟩
  rintro b8 w4 ⟨t4, B8, hb8⟩
  have t24 := t3.ext t4
  have B8l := B8.lt
  generalize blockL ld n (lineP p) = b at *
  refine draw_rule cx_ok [] (Plan.takes [0, 1, 2, 3, 4, 5, 6, 7, 8, 9] (.one true 10 (Plan.takes [11, 12, 13] .done))) (by kernel_rfl) ?_
  intro w5 d5
  have t25 := t24.ext d5.tr
  refine ⟨fun he => ?_, fun he => ?_⟩
  · rw [if_neg (fun h => h he)] at hfl
    refine ⟨_, fun w' t => t.cell (B8.cell rfl) (by simp), fun hk => ?_, fun hk => ?_⟩
    · rw [if_pos (.inl hk)] at hfl
      refine ⟨⟨d5.tr, ?_⟩, trivial⟩
      refine ⟨fun h => absurd (h : (70 : Int) = 0) (by decide), fun _ => ?_⟩
      exact ⟨_, rfl, fin bz 70 w5 t25 hfl⟩
    · refine ⟨_, fun w' t => t.cell (B8.cell rfl) (by simp), ?_⟩
      refine ⟨?_, trivial⟩
      refine call (PGen_calls p w5 (hg.ext (t2.ext t25))) ?_
      rintro _ w6 ⟨rfl, t6⟩
      have t26 := t25.ext t6
      refine ⟨d5.tr.ext t6, ?_⟩
      refine ⟨fun hgen => ?_, fun hgen => ?_⟩
      · rw [if_neg (by rintro (h | h); exact hk h; exact h hgen)] at hfl
        refine ⟨fun _ => ?_, fun h => absurd he h⟩
        exact ⟨_, ((B8.ext d5.tr).ext t6).all, rfl, fin b.1 0 w6 t26 hfl⟩
      · rw [if_pos (.inr hgen)] at hfl
        refine ⟨fun h => absurd (h : (70 : Int) = 0) (by decide), fun _ => ?_⟩
        exact ⟨_, rfl, fin bz 70 w6 t26 hfl⟩
  · rw [if_pos he] at hfl
    refine ⟨⟨d5.tr, ?_⟩, trivial⟩
    refine ⟨fun h => absurd h he, fun _ => ?_⟩
    exact ⟨_, rfl, fin bz b.2 w5 t25 hfl⟩

set_option maxHeartbeats 2000000 in
theorem Follow11_calls (hd : LdOk ld) (hn : InL n) (hl : IsLoad w 77 v ld) (p : Int) (hp : inI64 p) :
    Calls cx.P 18 #[.pointer (some ⟨v, 0, none⟩), .agg (lcs n).toArray, .int .i64 p] w (Ret fun x w' => x = .tuple #[.agg (bcells (followL ld n p).1).toArray, .int .i64 (followL ld n p).2] ∧ Tr [] w w') := by
  refine calls_body cx_ok (args := [.pointer (some ⟨v, 0, none⟩), .agg (lcs n).toArray, .int .i64 p]) Tryz.func18 rfl 44 rfl rfl [.cell 6 44, .tmp 7] rfl ?_
  intro b4 w1 n1 b6 w2 n2
  have e1 := n1.num; have e2 := n2.num; have z1 := n1.size; have z2 := n2.size
  have B4 : Blk w2 b4 (lcs n) 28 := (show Blk w1 b4 _ _ from n1.blk).ext n2.tr
  have B6 : Blk w2 b6 (bcells bz) 44 := n2.blk
  have t2 := n1.tr.ext n2.tr
  have fin : ∀ (r : BlkV) (e : Int) (W : World), Tr [] w2 W → followL ld n p = (r, e) → StN W b6 0 4 (bcells r) fun W' => ∃ vs, Cells W' b6 0 vs ∧ vs.length = 4 ∧ (pack [.agg vs.toArray, .int .i64 e] = .tuple #[.agg (bcells (followL ld n p).1).toArray, .int .i64 (followL ld n p).2] ∧ Tr [] w W') := by
    intro r e W tW hb
    have zW := tW.size
    refine ⟨_, _, B6.ext tW, rfl, by show 0 + 4 ≤ 4; decide, rfl, fun W' u => ⟨_, u.blk.all, rfl, ?_, u.ext (t2.ext tW) (by omega)⟩⟩
    rw [hb]; rfl
  refine call (Right07_calls p w2) ?_
  rintro _ _ ⟨rfl, rfl⟩
  refine ⟨fun h0 => ?_, fun h0 => ?_⟩
  · exact ⟨_, rfl, fin bz 1 w2 (Tr.refl _ _) (by unfold followL; rw [if_pos (.inl h0)])⟩
  cases hr : rightP p with
  | false => exact ⟨_, rfl, fin bz 1 w2 (Tr.refl _ _) (by unfold followL; rw [if_pos (.inr hr)])⟩
  | true =>
  have hfl : followL ld n p = if (blockL ld n (lineP p)).2 ≠ 0 then (bz, (blockL ld n (lineP p)).2)
      else if (blockL ld n (lineP p)).1.2.2.1 = 0 ∨ (blockL ld n (lineP p)).1.2.2.2 ≠ pgenP p then (bz, 70)
      else ((blockL ld n (lineP p)).1, 0) := by unfold followL; rw [if_neg (by rw [hr]; simp [h0])]
  refine cut_rule (α := Nat) (fun b8 => [(0, .pointer (some ⟨v, 0, none⟩)), (2, .int .i64 p), (4, .pointer (some ⟨b4, 0, none⟩)), (6, .pointer (some ⟨b6, 0, none⟩)), (9, .pointer (some ⟨b8, 0, none⟩)), (10, .int .i64 (blockL ld n (lineP p)).2)])
    (fun b8 W => Tr [] w2 W ∧ Blk W b8 (bcells (blockL ld n (lineP p)).1) 44 ∧ w2.heap.size ≤ b8) ?_ ?_
  · refine draw_rule cx_ok [] (Plan.takes [0, 1, 2] (.alt true 3 (.alt true 4 (Plan.takes [5, 6, 7] (.one true 8 (.one true 9 (Plan.takes [10] .done)))) (.alt true 8 (.one true 4 (Plan.takes [5, 6, 7] (.one true 9 (Plan.takes [10] .done)))) .stop))
      (.alt true 8 (.one true 3 (.one true 4 (Plan.takes [5, 6, 7] (.one true 9 (Plan.takes [10] .done))))) .stop))) (by kernel_rfl) ?_
    intro w4 d
    have zd := d.tr.size
    refine ⟨_, fun w' t => B4.all.tr t (by simp), rfl, ?_⟩
    have hli := lineP_i64 hp
    have blk : ∀ W, Tr [] w2 W → Calls cx.P 68 #[.pointer (some ⟨v, 0, none⟩), .agg (lcs n).toArray, .int .i64 (lineP p)] W (Ret fun x w' => x = .tuple #[.agg (bcells (blockL ld n (lineP p)).1).toArray, .int .i64 (blockL ld n (lineP p)).2] ∧ Tr [] W w') := fun W t => sblock_calls hd hn (hl.ext (t2.ext t)) (lineP p) hli
    refine ⟨?_, ?_, trivial⟩
    · refine call (Line07_calls p w4) ?_
      rintro _ _ ⟨rfl, rfl⟩
      have t35 := d.tr
      refine ⟨t35, ?_⟩
      refine ⟨?_, ?_, trivial⟩
      · refine call (blk w4 t35) ?_
        rintro _ w6 ⟨rfl, t6⟩
        have t36 := t35.ext t6
        have z6 := t36.size
        refine ⟨t36, ?_⟩
        refine ⟨?_, trivial⟩
        intro b8 w7 n7
        have e7 := n7.num; have z7 := n7.size
        refine ⟨t36.ext n7.tr, ?_⟩
        refine ⟨⟨_, _, n7.blk, rfl, by show 0 + 4 ≤ 4; decide, rfl, fun w8 u8 => ?_⟩, trivial⟩
        have t8 := u8.ext (t36.ext n7.tr) (by omega)
        exact ⟨t8, rfl, b8, ⟨rfl, rfl, rfl, rfl, rfl, rfl, trivial⟩, t8, u8.blk, by omega⟩
      · intro b8 w7 n7
        have e7 := n7.num; have z7 := n7.size; have z35 := t35.size
        have t37 := t35.ext n7.tr
        refine ⟨t37, ?_⟩
        refine ⟨?_, trivial⟩
        refine call (blk w7 t37) ?_
        rintro _ w6 ⟨rfl, t6⟩
        refine ⟨t37.ext t6, ?_⟩
        refine ⟨⟨_, _, (show Blk w7 b8 _ _ from n7.blk).ext t6, rfl, by show 0 + 4 ≤ 4; decide, rfl, fun w8 u8 => ?_⟩, trivial⟩
        have t8 := u8.ext (t37.ext t6) (by omega)
        exact ⟨t8, rfl, b8, ⟨rfl, rfl, rfl, rfl, rfl, rfl, trivial⟩, t8, u8.blk, by omega⟩
    · intro b8 w7 n7
      have e7 := n7.num; have z7 := n7.size
      have t37 := d.tr.ext n7.tr
      refine ⟨t37, ?_⟩
      refine ⟨?_, trivial⟩
      refine call (Line07_calls p w7) ?_
      rintro _ _ ⟨rfl, rfl⟩
      refine ⟨t37, ?_⟩
      refine ⟨?_, trivial⟩
      refine call (blk w7 t37) ?_
      rintro _ w6 ⟨rfl, t6⟩
      refine ⟨t37.ext t6, ?_⟩
      refine ⟨⟨_, _, (show Blk w7 b8 _ _ from n7.blk).ext t6, rfl, by show 0 + 4 ≤ 4; decide, rfl, fun w8 u8 => ?_⟩, trivial⟩
      have t8 := u8.ext (t37.ext t6) (by omega)
      exact ⟨t8, rfl, b8, ⟨rfl, rfl, rfl, rfl, rfl, rfl, trivial⟩, t8, u8.blk, by omega⟩
  rintro b8 w4 ⟨t4, B8, hb8⟩
  have B8l := B8.lt
  generalize blockL ld n (lineP p) = b at *
  refine ⟨fun he => ?_, fun he => ?_⟩
  · rw [if_neg (fun h => h he)] at hfl
    refine draw_rule cx_ok [] (Plan.takes [0, 1, 2, 3, 4, 5, 6] (.one true 7 (Plan.takes [8, 9] .done))) (by kernel_rfl) ?_
    intro w5 d5
    have t25 := t4.ext d5.tr
    refine ⟨_, fun w' t => t.cell (B8.cell rfl) (by simp), fun hk => ?_, fun hk => ?_⟩
    · rw [if_pos (.inl hk)] at hfl
      refine ⟨⟨d5.tr, ?_⟩, trivial⟩
      exact ⟨_, rfl, fin bz 70 w5 t25 hfl⟩
    · refine ⟨_, fun w' t => t.cell (B8.cell rfl) (by simp), ?_⟩
      refine ⟨?_, trivial⟩
      refine call (PGen07_calls p w5) ?_
      rintro _ _ ⟨rfl, rfl⟩
      refine ⟨d5.tr, ?_⟩
      refine ⟨fun hgen => ?_, fun hgen => ?_⟩
      · rw [if_neg (by rintro (h | h); exact hk h; exact h hgen)] at hfl
        exact ⟨_, (B8.ext d5.tr).all, rfl, fin b.1 0 w5 t25 hfl⟩
      · rw [if_pos (.inr hgen)] at hfl
        exact ⟨_, rfl, fin bz 70 w5 t25 hfl⟩
  · rw [if_pos he] at hfl
    exact ⟨_, rfl, fin bz b.2 w4 t4 hfl⟩

end

end Go.Proofs.YthepaakejpbppaaGreatDoor

/- class: Words; equality of lists of numbers and of blocks. -/
namespace Go.Proofs.YthepaakejpbppaaGreatDoor
open Go.E

/-- The first m words of a content. -/
def wTo (ld : Int → Int × Int) (base : Int) : Nat → List Int × Int
  | 0 => ([], 0)
  | m + 1 => if (wTo ld base m).2 ≠ 0 then wTo ld base m
    else if (ld (base + 1 + m)).2 ≠ 0 then ([], (ld (base + 1 + m)).2)
    else ((wTo ld base m).1 ++ [(ld (base + 1 + m)).1], 0)

theorem wTo_ok {ld : Int → Int × Int} {base : Int} {m : Nat} (h : (wTo ld base m).2 = 0) (h1 : (ld (base + 1 + m)).2 = 0) : wTo ld base (m + 1) = ((wTo ld base m).1 ++ [(ld (base + 1 + m)).1], 0) := by
  conv => lhs; unfold wTo
  rw [if_neg (fun hh => hh h), if_neg (fun hh => hh h1)]
theorem wTo_bad {ld : Int → Int × Int} {base : Int} {m : Nat} (h : (wTo ld base m).2 = 0) (h1 : (ld (base + 1 + m)).2 ≠ 0) : wTo ld base (m + 1) = ([], (ld (base + 1 + m)).2) := by
  conv => lhs; unfold wTo
  rw [if_neg (fun hh => hh h), if_pos h1]
theorem wTo_stay {ld : Int → Int × Int} {base : Int} {k : Nat} (h : (wTo ld base k).2 ≠ 0) : ∀ m, k ≤ m → wTo ld base m = wTo ld base k := by
  intro m hm
  induction hm with
  | refl => rfl
  | step hm ih =>
    conv => lhs; unfold wTo
    rw [ih, if_pos h]
theorem wTo_len {ld : Int → Int × Int} {base : Int} : ∀ m, (wTo ld base m).2 = 0 → (wTo ld base m).1.length = m
  | 0, _ => rfl
  | m + 1, h => by
    by_cases h0 : (wTo ld base m).2 = 0
    · by_cases h1 : (ld (base + 1 + m)).2 = 0
      · rw [wTo_ok h0 h1]; simp [wTo_len m h0]
      · rw [wTo_bad h0 h1] at h; exact absurd h h1
    · rw [wTo_stay h0 (m + 1) (by omega)] at h; exact absurd h h0

def wordsL (ld : Int → Int × Int) (n : Nat) (p : Int) : List Int × Int :=
  if (followL ld n p).2 ≠ 0 then ([], (followL ld n p).2)
  else wTo ld (8 * (followL ld n p).1.1) (roomP (followL ld n p).1.2.1).toNat

theorem blockL_range {ld : Int → Int × Int} (hd : LdOk ld) {n : Nat} (hn : InL n) (line : Int) (h : (blockL ld n line).2 = 0) : (blockL ld n line).1.1 = line ∧ 16 ≤ line ∧ line < 16 + 16 * (chunksN n : Int) ∧ 0 ≤ (blockL ld n line).1.2.1 ∧ (blockL ld n line).1.2.1 ≤ 4 ∧
    (line - 16) % linesP (blockL ld n line).1.2.1 = 0 := by
  unfold blockL at h ⊢
  have hr := assignedL_range hd hn (chunkP n line)
  generalize assignedL ld n (chunkP n line) = a at *
  by_cases h1 : a.2 ≠ 0
  · rw [if_pos h1] at h; exact absurd h h1
  · rw [if_neg h1] at h ⊢
    obtain ⟨r1, r2, r3, r4⟩ := hr (by omega)
    obtain ⟨c1, c2, c3⟩ := chunkP_ok hn r3
    by_cases h2 : a.1 = -1 ∨ (line - 16) % linesP a.1 ≠ 0
    · rw [if_pos h2] at h; exact absurd h (by decide)
    · rw [if_neg h2] at h ⊢
      by_cases h3 : (ld (8 * line)).2 ≠ 0
      · rw [if_pos h3] at h; exact absurd h h3
      · rw [if_neg h3] at h ⊢
        by_cases h4 : properP (ld (8 * line)).1 a.1 = false
        · rw [if_pos h4] at h; exact absurd h (by decide)
        · rw [if_neg h4]
          exact ⟨rfl, c1, c2, by dsimp only; omega, r2, by dsimp only; omega⟩

theorem followL_range {ld : Int → Int × Int} (_hd : LdOk ld) {n : Nat} (_hn : InL n) (p : Int) (h : (followL ld n p).2 = 0) : followL ld n p = blockL ld n (lineP p) ∧ (blockL ld n (lineP p)).2 = 0 := by
  unfold followL at h ⊢
  by_cases h1 : p = 0 ∨ rightP p = false
  · rw [if_pos h1] at h; exact absurd h (by decide)
  · rw [if_neg h1] at h ⊢
    generalize blockL ld n (lineP p) = b at *
    by_cases h2 : b.2 ≠ 0
    · rw [if_pos h2] at h; exact absurd h h2
    · rw [if_neg h2] at h ⊢
      by_cases h3 : b.1.2.2.1 = 0 ∨ b.1.2.2.2 ≠ pgenP p
      · rw [if_pos h3] at h; exact absurd h (by decide)
      · rw [if_neg h3]
        have : b.2 = 0 := by omega
        exact ⟨by rw [← this], this⟩

theorem roomP_ok {c : Int} (h0 : 0 ≤ c) (h1 : c ≤ 4) : roomP c = ((roomP c).toNat : Nat) ∧ (roomP c).toNat ≤ 127 ∧ roomP c = 8 * linesP c - 1 := by
  have := linesP_pos h0 h1
  have e : roomP c = 8 * linesP c - 1 := by unfold roomP; rw [if_neg (by omega)]
  rw [e]; omega

section
variable {w : World} {ld : Int → Int × Int} {n v : Nat}

/-- A list of numbers, in a block of the call's own. -/
def OwnS (w w' : World) (s : Value) (xs : List Int) : Prop := SliD w' s xs.length (i64s xs) (fun b => w.heap.size ≤ b ∧ b < w'.heap.size)

theorem OwnS.nil {w w' : World} : OwnS w w' (.slice none 0 0) [] := ⟨none, 0, rfl, Nat.le_refl _, .inl ⟨rfl, rfl⟩⟩

theorem i64s_one (xs : List Int) : (i64s xs).all E.one = true := by simp [i64s, E.one]
theorem i64s_set (xs : List Int) (i : Nat) (x : Int) : (i64s xs).set i (.int .i64 x) = i64s (xs.set i x) := by simp [i64s, List.map_set]
theorem i64s_app (xs ys : List Int) : i64s (xs ++ ys) = i64s xs ++ i64s ys := by simp [i64s]

set_option maxHeartbeats 1000000 in
theorem Words_calls (hg : Gl w) (hd : LdOk ld) (hn : InL n) (hl : IsLoad w 70 v ld) (p : Int) (hp : inI64 p) :
    Calls cx.P 19 #[.pointer (some ⟨v, 0, none⟩), .agg (lcs n).toArray, .int .i64 p] w (Ret fun x w' => Tr [] w w' ∧ ∃ s, x = .tuple #[s, .int .i64 (wordsL ld n p).2] ∧ OwnS w w' s (wordsL ld n p).1) := by
  have hch := hn.chunks
  refine calls_body cx_ok (args := [.pointer (some ⟨v, 0, none⟩), .agg (lcs n).toArray, .int .i64 p]) Tryz.func19 rfl 50 rfl rfl [.tmp 6, .tmp 7] rfl ?_
  intro b4 w1 n1
  have e1 := n1.num; have z1 := n1.size
  have B4 : Blk w1 b4 (lcs n) 28 := n1.blk
  refine ⟨_, B4.all, rfl, ?_⟩
  refine call (Follow_calls (hg.ext n1.tr) hd hn (hl.ext n1.tr) p hp) ?_
  rintro _ w2 ⟨rfl, t2⟩
  have z2 := t2.size
  have hfr := followL_range hd hn p
  unfold wordsL
  have hbr := blockL_range hd hn (lineP p)
  generalize followL ld n p = b at *
  intro b8 w3 n3
  have e3 := n3.num; have z3 := n3.size
  refine ⟨_, _, n3.blk, rfl, by show 0 + 4 ≤ 4; decide, rfl, fun w4 u4 => ?_⟩
  have z4 := u4.size
  have t14 : Tr [] w1 w4 := u4.ext (t2.ext n3.tr) (by omega)
  have B8 : Blk w4 b8 (bcells b.1) 44 := u4.blk
  refine ⟨fun he => ?_, fun he => ?_⟩
  · rw [if_neg (fun h => h he)]
    obtain ⟨f1, f2⟩ := hfr he
    obtain ⟨q1, q2, q3, q4, q5, q6⟩ := hbr f2
    rw [← f1] at q1 q4 q5 q6
    have hroom := roomP_ok q4 q5
    obtain ⟨m, hm⟩ : ∃ m, m = (roomP b.1.2.1).toNat := ⟨_, rfl⟩
    rw [← hm] at hroom ⊢
    refine ⟨_, B8.cell rfl, ?_⟩
    refine call (Room_calls b.1.2.1 w4) ?_
    rintro _ _ ⟨rfl, rfl⟩
    rw [hroom.1]
    refine ⟨m, m, rfl, rfl, Nat.le_refl _, ⟨by show m * 8 ≤ _; omega, by omega, rfl⟩, fun bo w5 n5 => ?_⟩
    have e5 := n5.num; have z5 := n5.size
    have t15 := t14.ext n5.tr
    have BO : Blk w5 bo (i64s (List.replicate m 0)) 3 := by
      have hb := n5.blk
      have e : (List.replicate m [Value.int .i64 0]).flatten = i64s (List.replicate m 0) := by simp [i64s]
      rw [← e]
      exact hb
    have base : (8 * b.1.1 + 1 + 127 : Int) ≤ 10000 := by omega
    refine loop_rule cx_ok (fun (k : Nat) W => (k ≤ m ∧ (wTo ld (8 * b.1.1) k).2 = 0) ∧ Tr [] w4 W ∧ Blk W b8 (bcells b.1) 44 ∧ Blk W bo (i64s ((wTo ld (8 * b.1.1) k).1 ++ List.replicate (m - k) 0)) 3)
      (fun k : Nat => [(0, .pointer (some ⟨v, 0, none⟩)), (8, .pointer (some ⟨b8, 0, none⟩)), (10, .slice (some ⟨bo, 0, none⟩) m m), (27, .int .i64 m), (28, .int .i64 k)]) (fun k => m - k) 0 ⟨rfl, rfl, rfl, rfl, rfl, trivial⟩ ⟨⟨by omega, rfl⟩, n5.tr, B8.ext n5.tr, BO⟩ ?_
    rintro k W ⟨⟨hk, hk0⟩, tW, B8W, BW⟩
    have zW := tW.size
    refine ⟨fun hlt => ?_, fun hge => ?_⟩
    · have hkm : k < m := by omega
      refine ⟨_, B8W.cell rfl, (8 * b.1.1), by rw [w64 (by omega)], (8 * b.1.1 + 1), by rw [w64 (by omega)], (8 * b.1.1 + 1 + k), by rw [w64 (by omega)], ?_⟩
      refine call (hl W (8 * b.1.1 + 1 + k) (n1.tr.ext (t14.ext tW)) (by unfold inI64; omega)) ?_
      rintro _ W2 ⟨rfl, t2'⟩
      have z2' := t2'.size
      have hlen := wTo_len k hk0
      refine ⟨k, rfl, hkm, _, _, BW.ext t2', by rw [i64s_len, List.length_append, hlen, List.length_replicate]; show 0 + k * 1 < _; omega, rfl, fun W3 u3 => ?_⟩
      have z3' := u3.size
      refine ⟨fun h0 => ?_, fun h0 => ?_⟩
      · refine ⟨((k + 1 : Nat) : Int), by rw [w64 (by omega)]; omega, ?_⟩
        have hok := wTo_ok hk0 h0
        have t43 : Tr [] w4 W3 := u3.ext (tW.ext t2') (by omega)
        refine ⟨rfl, k + 1, ⟨rfl, rfl, rfl, rfl, rfl, trivial⟩, ⟨⟨by omega, by rw [hok]⟩, t43, (B8W.ext t2').tr u3.tr (by have := B8.lt; simp; omega), ?_⟩, by omega⟩
        have hb := u3.blk
        rw [i64s_set] at hb
        rw [hok]
        have : ((wTo ld (8 * b.1.1) k).1 ++ List.replicate (m - k) 0).set (0 + k * 1) (ld (8 * b.1.1 + 1 + k)).1 = (wTo ld (8 * b.1.1) k).1 ++ [(ld (8 * b.1.1 + 1 + k)).1] ++ List.replicate (m - (k + 1)) 0 := by
          rw [List.set_append, if_neg (by omega), hlen, show 0 + k * 1 - k = 0 by omega, show m - k = (m - (k + 1)) + 1 by omega, List.replicate_succ, List.set_cons_zero]
          simp
        rw [this] at hb
        exact hb
      · have hbad := wTo_bad hk0 h0
        have hst := wTo_stay (ld := ld) (base := 8 * b.1.1) (k := k + 1) (by rw [hbad]; exact h0) m (by omega)
        rw [hst, hbad]
        exact ⟨n1.tr.ext (u3.ext (t14.ext (tW.ext t2')) (by omega)), _, rfl, OwnS.nil⟩
    · obtain rfl : k = m := by omega
      rw [Nat.sub_self, List.replicate_zero, List.append_nil] at BW
      have hlen := wTo_len k hk0
      refine ⟨n1.tr.ext (t14.ext tW), _, by rw [hk0]; rfl, ?_⟩
      exact ⟨_, _, by rw [hlen], by rw [hlen]; exact Nat.le_refl _, .inr ⟨bo, 0, rfl, ⟨by omega, BW.lt⟩, BW.all⟩⟩
  · rw [if_pos he]
    exact ⟨n1.tr.ext t14, _, rfl, OwnS.nil⟩

set_option maxHeartbeats 1000000 in
theorem Words11_calls (hd : LdOk ld) (hn : InL n) (hl : IsLoad w 77 v ld) (p : Int) (hp : inI64 p) :
    Calls cx.P 20 #[.pointer (some ⟨v, 0, none⟩), .agg (lcs n).toArray, .int .i64 p] w (Ret fun x w' => Tr [] w w' ∧ ∃ s, x = .tuple #[s, .int .i64 (wordsL ld n p).2] ∧ OwnS w w' s (wordsL ld n p).1) := by
  have hch := hn.chunks
  refine calls_body cx_ok (args := [.pointer (some ⟨v, 0, none⟩), .agg (lcs n).toArray, .int .i64 p]) Tryz.func20 rfl 49 rfl rfl [.tmp 6, .tmp 7] rfl ?_
  intro b4 w1 n1
  have e1 := n1.num; have z1 := n1.size
  have B4 : Blk w1 b4 (lcs n) 28 := n1.blk
  refine ⟨_, B4.all, rfl, ?_⟩
  refine call (Follow11_calls hd hn (hl.ext n1.tr) p hp) ?_
  rintro _ w2 ⟨rfl, t2⟩
  have z2 := t2.size
  have hfr := followL_range hd hn p
  unfold wordsL
  have hbr := blockL_range hd hn (lineP p)
  generalize followL ld n p = b at *
  intro b8 w3 n3
  have e3 := n3.num; have z3 := n3.size
  refine ⟨_, _, n3.blk, rfl, by show 0 + 4 ≤ 4; decide, rfl, fun w4 u4 => ?_⟩
  have z4 := u4.size
  have t14 : Tr [] w1 w4 := u4.ext (t2.ext n3.tr) (by omega)
  have B8 : Blk w4 b8 (bcells b.1) 44 := u4.blk
  refine ⟨fun he => ?_, fun he => ?_⟩
  · rw [if_neg (fun h => h he)]
    obtain ⟨f1, f2⟩ := hfr he
    obtain ⟨q1, q2, q3, q4, q5, q6⟩ := hbr f2
    rw [← f1] at q1 q4 q5 q6
    have hroom := roomP_ok q4 q5
    obtain ⟨m, hm⟩ : ∃ m, m = (roomP b.1.2.1).toNat := ⟨_, rfl⟩
    rw [← hm] at hroom ⊢
    refine loop_rule cx_ok (fun (x : Nat × Value) W => (x.1 ≤ m ∧ (wTo ld (8 * b.1.1) x.1).2 = 0) ∧ Tr [] w4 W ∧ Row W 3 1 x.2 x.1 (i64s (wTo ld (8 * b.1.1) x.1).1) ∧ ∀ c, x.2.ownBlock = some c → w4.heap.size ≤ c)
      (fun x : Nat × Value => [(0, .pointer (some ⟨v, 0, none⟩)), (8, .pointer (some ⟨b8, 0, none⟩)), (10, x.2), (11, .int .i64 ((x.1 : Nat) + 1 : Int))]) (fun x => m - x.1) (0, .slice none 0 0) ⟨rfl, rfl, rfl, rfl, trivial⟩ ⟨⟨by omega, rfl⟩, Tr.refl _ _, World.ownsRow_nil _ _ _ _, fun b hb => by simp [Value.ownBlock] at hb⟩ ?_
    rintro ⟨k, sv⟩ W ⟨⟨hk, hk0⟩, tW, RW, hv⟩
    dsimp only at hk hk0 RW hv
    have zW := tW.size
    have B8W := B8.ext tW
    refine ⟨_, B8W.cell rfl, ?_⟩
    refine call (Room11_calls b.1.2.1 W) ?_
    rintro _ _ ⟨rfl, rfl⟩
    rw [hroom.1]
    refine ⟨fun hle => ?_, fun hgt => ?_⟩
    · have hle' : ((k : Nat) + 1 : Int) ≤ (m : Nat) := hle
      have hkm : k < m := by omega
      refine ⟨_, B8W.cell rfl, (8 * b.1.1), by rw [w64 (by omega)], (8 * b.1.1 + 1 + k), by show IntKind.i64.wrap (8 * b.1.1 + ((k : Nat) + 1 : Int)) = _; rw [w64 (by omega)]; omega, ?_⟩
      refine call (hl W (8 * b.1.1 + 1 + k) (n1.tr.ext (t14.ext tW)) (by unfold inI64; omega)) ?_
      rintro _ W2 ⟨rfl, t2'⟩
      have z2' := t2'.size
      refine ⟨fun h0 => ?_, fun h0 => ?_⟩
      · have hok := wTo_ok hk0 h0
        refine ⟨_, rfl, fun b9 w9 n9 => ?_⟩
        have e9 := n9.num; have z9 := n9.size
        refine append_own cx_ok (x := ⟨1, 24, false, [.slice none 0 0], .slice 3⟩) rfl rfl rfl (by decide) (Row.tr RW (t2'.ext n9.tr) (by simp)) b9 0 1 1 [.int .i64 (ld (8 * b.1.1 + 1 + k)).1] rfl n9.blk.all rfl (by omega) (by decide) ?_
        intro v5 w5 hr5 t5 hat5 _
        refine ⟨((k : Nat) + 1 + 1 : Int), by show IntKind.i64.wrap (((k : Nat) + 1 : Int) + 1) = _; rw [w64 (by omega)], ?_⟩
        refine ⟨rfl, (k + 1, v5), ⟨rfl, rfl, rfl, by dsimp only; push_cast; rfl, trivial⟩, ⟨⟨by dsimp only; omega, by dsimp only; rw [hok]⟩, ?_, ?_, fun c hc => ?_⟩, by dsimp only; omega⟩
        · exact ((tW.ext t2').ext n9.tr).trans t5 (fun _ h => h) (fun c hc hlt => by have := hv c (by simpa using hc); omega)
        · dsimp only
          rw [hok, i64s_app]
          exact hr5
        · rcases hat5 with h | h
          · exact hv c (h ▸ hc)
          · rw [h] at hc; have := Option.some.inj hc; omega
      · have hbad := wTo_bad hk0 h0
        have hst := wTo_stay (ld := ld) (base := 8 * b.1.1) (k := k + 1) (by rw [hbad]; exact h0) m (by omega)
        rw [hst, hbad]
        exact ⟨n1.tr.ext (t14.ext (tW.ext t2')), _, rfl, OwnS.nil⟩
    · have hgt' : ¬ ((k : Nat) + 1 : Int) ≤ (m : Nat) := hgt
      obtain rfl : k = m := by omega
      have hlen := wTo_len k hk0
      refine ⟨n1.tr.ext (t14.ext tW), sv, by rw [hk0]; rfl, ?_⟩
      have hs := (Row.slid RW)
      rw [← hlen] at hs
      unfold OwnS
      rw [hlen] at hs ⊢
      exact hs.mono fun c hc => ⟨by have := hv c hc; omega, Row.lt RW hc⟩
  · rw [if_pos he]
    exact ⟨n1.tr.ext t14, _, rfl, OwnS.nil⟩

theorem SameI_calls (w : World) (xs ys : List Int) (hx : xs.length ≤ 1048576) (s t : Value) (hs : Sli w s xs.length (i64s xs)) (ht : Sli w t ys.length (i64s ys)) :
    Calls cx.P 21 #[s, t] w (Ret fun v w' => v = .bool (decide (xs = ys)) ∧ Tr [] w w') := by
  obtain ⟨a, c, rfl, _, hs⟩ := hs
  obtain ⟨a', c', rfl, _, ht⟩ := ht
  refine calls_body cx_ok (args := [.slice a xs.length c, .slice a' ys.length c']) Tryz.func21 rfl 26 rfl rfl [.tmp 4] rfl ?_
  refine ⟨fun he => ?_, fun hne => ?_⟩
  · have he' : xs.length = ys.length := by omega
    refine loop_rule cx_ok (fun k W => k ≤ xs.length ∧ Tr [] w W ∧ ∀ i, i < k → xs[i]? = ys[i]?) (fun k : Nat => [(0, .slice a xs.length c), (1, .slice a' ys.length c'), (5, .int .i64 k)]) (fun k => xs.length - k) 0 ⟨rfl, rfl, rfl, trivial⟩ ⟨by omega, Tr.refl _ _, fun i hi => by omega⟩ ?_
    rintro k W ⟨hk, tW, hsame⟩
    refine ⟨fun hlt => ?_, fun hge => ?_⟩
    · have hkx : k < xs.length := by omega
      obtain ⟨g, o, rfl, hc⟩ := hs.resolve_left (fun hh => by have := hh.2; omega)
      obtain ⟨g', o', rfl, hc'⟩ := ht.resolve_left (fun hh => by have := hh.2; omega)
      have h1 : w.cell? ⟨g, o + k * 1, none⟩ = some (.int .i64 xs[k]) := by rw [Nat.mul_one]; exact hc k _ (i64s_get (List.getElem?_eq_getElem hkx))
      have hky : k < ys.length := by omega
      have h2 : w.cell? ⟨g', o' + k * 1, none⟩ = some (.int .i64 ys[k]) := by rw [Nat.mul_one]; exact hc' k _ (i64s_get (List.getElem?_eq_getElem hky))
      refine draw_rule cx_ok [] (Plan.takes [0, 1, 2, 3, 4, 5, 6, 7, 8] .done) (by kernel_rfl) ?_
      intro W1 d
      refine ⟨k, rfl, hkx, _, fun w' t => (tW.ext t).cell h1 (by simp), k, rfl, hky, _, fun w' t => (tW.ext t).cell h2 (by simp), fun heq => ?_, fun hneq => ?_⟩
      · refine ⟨((k + 1 : Nat) : Int), by rw [w64 (by omega)]; omega, ?_⟩
        refine ⟨rfl, k + 1, ⟨rfl, rfl, rfl, trivial⟩, ⟨by omega, tW.ext d.tr, fun i hi => ?_⟩, by omega⟩
        by_cases hik : i = k
        · subst hik; rw [List.getElem?_eq_getElem hkx, List.getElem?_eq_getElem hky, heq]
        · exact hsame i (by omega)
      · have hne' : xs ≠ ys := fun e => hneq (by subst e; rfl)
        exact ⟨by simp [hne'], tW.ext d.tr⟩
    · have hkx : k = xs.length := by omega
      have : xs = ys := List.ext_getElem? fun i => by
        by_cases hi : i < k
        · exact hsame i hi
        · rw [List.getElem?_eq_none (by omega), List.getElem?_eq_none (by omega)]
      exact ⟨by simp [this], tW⟩
  · have : xs ≠ ys := fun e => hne (by rw [e])
    exact ⟨by simp [this], Tr.refl _ _⟩

def bints (b : BlkV) : List Int := [b.1, b.2.1, b.2.2.1, b.2.2.2]
theorem bcells_eq (b : BlkV) : bcells b = i64s (bints b) := rfl
theorem bints_inj {a b : BlkV} : bints a = bints b ↔ a = b := by
  obtain ⟨a1, a2, a3, a4⟩ := a
  obtain ⟨b1, b2, b3, b4⟩ := b
  simp [bints]
theorem flat_block : flatN cx.P 4 44 = some 4 := by kernel_rfl
theorem guard_block : cx.P.eqGuardType cx.P.depth 44 = false := by kernel_rfl
theorem wide_block : notInt cx.P 44 = true := by kernel_rfl

def bcs (bs : List BlkV) : List Value := bs.flatMap bcells
theorem bcs_len (bs : List BlkV) : (bcs bs).length = bs.length * 4 := fm_len (fun _ _ => rfl)
theorem bcs_at {w : World} {g o : Nat} {bs : List BlkV} (h : Cells w g o (bcs bs)) {k : Nat} {b : BlkV} (hk : bs[k]? = some b) : Cells w g (o + k * 4) (bcells b) := fun j v hv => by
  have := h _ _ (fm_get (k := 4) (fun _ _ => rfl) hk hv)
  rw [Nat.add_assoc]; exact this

theorem SameBlocks_calls (w : World) (xs ys : List BlkV) (hx : xs.length ≤ 1048576) (s t : Value) (hs : Sli w s xs.length (bcs xs)) (ht : Sli w t ys.length (bcs ys)) :
    Calls cx.P 29 #[s, t] w (Ret fun v w' => v = .bool (decide (xs = ys)) ∧ Tr [] w w') := by
  obtain ⟨a, c, rfl, _, hs⟩ := hs
  obtain ⟨a', c', rfl, _, ht⟩ := ht
  refine calls_body cx_ok (args := [.slice a xs.length c, .slice a' ys.length c']) Tryz.func29 rfl 26 rfl rfl [.tmp 4] rfl ?_
  refine ⟨fun he => ?_, fun hne => ?_⟩
  · have he' : xs.length = ys.length := by omega
    refine loop_rule cx_ok (fun k W => k ≤ xs.length ∧ Tr [] w W ∧ ∀ i, i < k → xs[i]? = ys[i]?) (fun k : Nat => [(0, .slice a xs.length c), (1, .slice a' ys.length c'), (5, .int .i64 k)]) (fun k => xs.length - k) 0 ⟨rfl, rfl, rfl, trivial⟩ ⟨by omega, Tr.refl _ _, fun i hi => by omega⟩ ?_
    rintro k W ⟨hk, tW, hsame⟩
    refine ⟨fun hlt => ?_, fun hge => ?_⟩
    · have hkx : k < xs.length := by omega
      obtain ⟨g, o, rfl, hc⟩ := hs.resolve_left (fun hh => by have := hh.2; omega)
      obtain ⟨g', o', rfl, hc'⟩ := ht.resolve_left (fun hh => by have := hh.2; omega)
      have hky : k < ys.length := by omega
      have h1 := bcs_at hc (List.getElem?_eq_getElem hkx)
      have h2 := bcs_at hc' (List.getElem?_eq_getElem hky)
      refine draw_rule cx_ok [] (Plan.takes [0, 1, 2, 3, 4, 5, 6, 7] (.one true 8 .done)) (by kernel_rfl) ?_
      intro W1 d
      refine ⟨k, rfl, hkx, _, fun w' t => h1.tr (tW.ext t) (by simp), rfl, k, rfl, hky, _, fun w' t => h2.tr (tW.ext t) (by simp), rfl, ?_⟩
      refine ⟨?_, trivial⟩
      refine neq_flat (d := 4) (by decide) flat_block wide_block guard_block _ _ (bcells_eq _) (bcells_eq _) rfl rfl W1 ?_
      refine ⟨d.tr, ?_⟩
      cases hd : decide (bints xs[k] = bints ys[k]) with
      | true =>
        have heq := bints_inj.1 (of_decide_eq_true hd)
        refine ⟨((k + 1 : Nat) : Int), by rw [w64 (by omega)]; omega, ?_⟩
        refine ⟨rfl, k + 1, ⟨rfl, rfl, rfl, trivial⟩, ⟨by omega, tW.ext d.tr, fun i hi => ?_⟩, by omega⟩
        by_cases hik : i = k
        · subst hik; rw [List.getElem?_eq_getElem hkx, List.getElem?_eq_getElem hky, heq]
        · exact hsame i (by omega)
      | false =>
        have hneq := of_decide_eq_false hd
        have hne' : xs ≠ ys := fun e => hneq (by subst e; rfl)
        exact ⟨by simp [hne'], tW.ext d.tr⟩
    · have hkx : k = xs.length := by omega
      have : xs = ys := List.ext_getElem? fun i => by
        by_cases hi : i < k
        · exact hsame i hi
        · rw [List.getElem?_eq_none (by omega), List.getElem?_eq_none (by omega)]
      exact ⟨by simp [this], tW⟩
  · have : xs ≠ ys := fun e => hne (by rw [e])
    exact ⟨by simp [this], Tr.refl _ _⟩

end

end Go.Proofs.YthepaakejpbppaaGreatDoor

/- class: a picture lies in the heap; Scan. -/
namespace Go.Proofs.YthepaakejpbppaaGreatDoor
open Go.E

def chunkVal (ld : Int → Int × Int) (n : Nat) (k : Int) : Int := if (assignedL ld n k).2 ≠ 0 then -2 else (assignedL ld n k).1
def okB (ld : Int → Int × Int) (n : Nat) (line : Int) : Bool := decide ((blockL ld n line).2 = 0)
def blksOf (ld : Int → Int × Int) (n : Nat) (xs : List Int) : List BlkV := (xs.filter (okB ld n)).map fun l => (blockL ld n l).1
def badOf (ld : Int → Int × Int) (n : Nat) (xs : List Int) : List Int := xs.filter fun l => !okB ld n l
def stOf (ld : Int → Int × Int) (n : Nat) (k : Nat) : List Int := startsL n k (chunkVal ld n k)
def chunksK (ld : Int → Int × Int) (n k : Nat) : List Int := (List.range k).map fun j : Nat => chunkVal ld n j
def startsK (ld : Int → Int × Int) (n k : Nat) : List Int := (List.range k).flatMap fun j : Nat => stOf ld n j
def scanC (ld : Int → Int × Int) (n : Nat) : List Int := chunksK ld n (chunksN n)
def scanB (ld : Int → Int × Int) (n : Nat) : List BlkV := blksOf ld n (startsK ld n (chunksN n))
def scanX (ld : Int → Int × Int) (n : Nat) : List Int := badOf ld n (startsK ld n (chunksN n))

theorem chunksK_succ (ld : Int → Int × Int) (n k : Nat) : chunksK ld n (k + 1) = chunksK ld n k ++ [chunkVal ld n k] := by simp [chunksK, List.range_succ]
theorem startsK_succ (ld : Int → Int × Int) (n k : Nat) : startsK ld n (k + 1) = startsK ld n k ++ stOf ld n k := by simp [startsK, List.range_succ]
theorem startsL_len (n : Nat) (k c : Int) : (startsL n k c).length ≤ 16 := by
  unfold startsL
  split
  · simp
  · rename_i h
    have := (pow_facts c.toNat (by omega)).2.2.2
    simpa using this
theorem startsK_len (ld : Int → Int × Int) (n : Nat) : ∀ k, (startsK ld n k).length ≤ 16 * k
  | 0 => by simp [startsK]
  | k + 1 => by
    rw [startsK_succ, List.length_append]
    have := startsK_len ld n k
    have := startsL_len n k (chunkVal ld n k)
    unfold stOf
    omega
theorem blksOf_len (ld : Int → Int × Int) (n : Nat) (xs : List Int) : (blksOf ld n xs).length ≤ xs.length := by
  unfold blksOf
  rw [List.length_map]
  exact List.length_filter_le _ _
theorem badOf_len (ld : Int → Int × Int) (n : Nat) (xs : List Int) : (badOf ld n xs).length ≤ xs.length := List.length_filter_le _ _
theorem blksOf_ok {ld : Int → Int × Int} {n : Nat} {xs : List Int} {l : Int} (h : (blockL ld n l).2 = 0) : blksOf ld n (xs ++ [l]) = blksOf ld n xs ++ [(blockL ld n l).1] ∧ badOf ld n (xs ++ [l]) = badOf ld n xs := by
  have : okB ld n l = true := decide_eq_true h
  unfold blksOf badOf
  simp [List.filter_append, this]
theorem blksOf_no {ld : Int → Int × Int} {n : Nat} {xs : List Int} {l : Int} (h : ¬ (blockL ld n l).2 = 0) : blksOf ld n (xs ++ [l]) = blksOf ld n xs ∧ badOf ld n (xs ++ [l]) = badOf ld n xs ++ [l] := by
  have : okB ld n l = false := decide_eq_false h
  unfold blksOf badOf
  simp [List.filter_append, this]

theorem bcs_app (xs ys : List BlkV) : bcs (xs ++ ys) = bcs xs ++ bcs ys := by simp [bcs]

def po (b : Nat) (s1 s2 s3 : Value) : List (Option Nat) := [some b, s1.ownBlock, s2.ownBlock, s3.ownBlock]
/-- A picture lies at b, in blocks that w0 does not have. -/
structure PX (P : List Nat) (w0 w : World) (b : Nat) (s1 s2 s3 : Value) (X : List Int) (Y : List BlkV) (Z : List Int) : Prop where
  head : Blk w b [s1, s2, s3] 59
  r1 : Row w 3 1 s1 X.length (i64s X)
  r2 : Row w 44 4 s2 Y.length (bcs Y)
  r3 : Row w 3 1 s3 Z.length (i64s Z)
  nodup : ((po b s1 s2 s3).flatMap Option.toList).Nodup
  ge : ∀ c ∈ (po b s1 s2 s3).flatMap Option.toList, c ∈ P ∨ w0.heap.size ≤ c
  tr0 : Tr P w0 w

namespace PX
variable {P : List Nat} {w0 w : World} {b : Nat} {s1 s2 s3 : Value} {X : List Int} {Y : List BlkV} {Z : List Int}
theorem tr {S : List Nat} {w' : World} (h : PX P w0 w b s1 s2 s3 X Y Z) (t : Tr S w w') (hS : ∀ c ∈ S, c ∉ (po b s1 s2 s3).flatMap Option.toList) (ht : Tr P w0 w') : PX P w0 w' b s1 s2 s3 X Y Z := by
  have hin : ∀ c, some c ∈ po b s1 s2 s3 → c ∉ S := fun c hc hm => hS c hm (fn_mem.2 hc)
  exact ⟨h.head.tr t (hin b (by simp [po])), Row.tr h.r1 t fun c hc => hin c (by simp [po, hc]), Row.tr h.r2 t fun c hc => hin c (by simp [po, hc]), Row.tr h.r3 t fun c hc => hin c (by simp [po, hc]), h.nodup, h.ge, ht⟩
theorem ext {w' : World} (h : PX P w0 w b s1 s2 s3 X Y Z) (t : Tr [] w w') : PX P w0 w' b s1 s2 s3 X Y Z := h.tr t (by simp) (h.tr0.trans t (fun _ h => h) (fun _ h _ => by cases h))
theorem lt (h : PX P w0 w b s1 s2 s3 X Y Z) : ∀ c ∈ (po b s1 s2 s3).flatMap Option.toList, c < w.heap.size := by
  intro c hc
  have hc := fn_mem.1 hc
  simp only [po, List.mem_cons, List.not_mem_nil, or_false] at hc
  rcases hc with hc | hc | hc | hc
  · cases hc; exact h.head.lt
  · exact Row.lt h.r1 hc.symm
  · exact Row.lt h.r2 hc.symm
  · exact Row.lt h.r3 hc.symm

theorem app1 (h : PX P w0 w b s1 s2 s3 X Y Z) {x : Int} {b8 ty : Nat} (B8 : Blk w b8 [.int .i64 x] 3) (hl : X.length ≤ 549755813888) {K : Value → World → Prop}
    (hK : ∀ s' w', Tr s1.ownBlock.toList w w' → Go.E.one s' = true → Blk w' b [s1, s2, s3] 59 → (∀ w'' : World, Upd w' b (.cells ([s1, s2, s3].set 0 s').toArray 59) w'' → PX P w0 w'' b s' s2 s3 (X ++ [x]) Y Z) → K s' w') :
    RunV cx.P (Builtin.append_ #[51, 51] ty #[s1, .slice (some ⟨b8, 0, none⟩) 1 1]) w K := by
  refine append_own cx_ok (x := ⟨1, 24, false, [.slice none 0 0], .slice 3⟩) rfl rfl rfl (by decide) h.r1 b8 0 1 1 [.int .i64 x] rfl B8.all rfl (by omega) (by decide) ?_
  intro s' w' hr' t hat _
  have hz := h.tr0.size
  have a0 : (po b s1 s2 s3)[0]? = some (some b) := rfl
  have hne : ∀ c, s1.ownBlock = some c → ∀ (i : Nat) (d : Nat), (po b s1 s2 s3)[i]? = some (some d) → c = d → i = 1 := fun c hc i d hi e => fn_ne h.nodup hi (by rw [← e, ← hc]; rfl)
  have ho : ∀ c, s'.ownBlock = some c → s1.ownBlock = some c ∨ w.heap.size ≤ c := fun c hc => by
    rcases hat with e | e
    · exact .inl (e ▸ hc)
    · rw [e] at hc; exact .inr (by have := Option.some.inj hc; omega)
  obtain ⟨f1, f2⟩ := fn_set h.nodup h.lt (i := 1) (o := s1.ownBlock) rfl ho
  have hb : b ∉ s1.ownBlock.toList := fun hm => by have := hne b (by simpa using hm) 0 b a0 rfl; omega
  have hs'b : ∀ c, s'.ownBlock = some c → c ≠ b := fun c hc e => by
    rcases ho c hc with h1 | h1
    · exact hb (by simp [h1, e])
    · have := h.head.lt; omega
  have hoth : ∀ (i : Nat) (s : Value), i ≠ 1 → (po b s1 s2 s3)[i]? = some s.ownBlock → ∀ c, s.ownBlock = some c → c ∉ s1.ownBlock.toList := fun i s hi hs c hc hm => hi (hne c (by simpa using hm) i c (by rw [hs, hc]) rfl)
  have hnb : ∀ (i : Nat) (s : Value), i ≠ 0 → (po b s1 s2 s3)[i]? = some s.ownBlock → ∀ c, s.ownBlock = some c → c ∉ [b] := fun i s hi hs c hc hm => hi (fn_ne h.nodup (by rw [hs, hc]) (by rw [show c = b by simpa using hm]; exact a0))
  refine hK s' w' t (Row.one hr') (h.head.tr t hb) fun w'' u => ⟨u.blk, by rw [List.length_append, i64s_app]; exact Row.tr hr' u.tr fun c hc hm => hs'b c hc (by simpa using hm), Row.tr (Row.tr h.r2 t (hoth 2 s2 (by decide) rfl)) u.tr (hnb 2 s2 (by decide) rfl), Row.tr (Row.tr h.r3 t (hoth 3 s3 (by decide) rfl)) u.tr (hnb 3 s3 (by decide) rfl), f1, fun c hc => ?_, ?_⟩
  · rcases f2 c hc with h1 | h1
    · exact h.ge c h1
    · exact .inr (by omega)
  · have hge : ∀ c ∈ s1.ownBlock.toList, c ∈ P ∨ w0.heap.size ≤ c := fun c hc => by
      have e : s1.ownBlock = some c := by simpa using hc
      exact h.ge c (fn_mem.2 (by simp [po, e]))
    have hgb := h.ge b (fn_mem.2 (by simp [po]))
    exact (h.tr0.trans t (fun _ h => h) (fun c hc hlt => (hge c hc).resolve_right (by omega))).trans u.tr (fun _ h => h) (fun c hc hlt => by simp at hc; subst hc; exact hgb.resolve_right (by omega))

theorem app2 (h : PX P w0 w b s1 s2 s3 X Y Z) {x : BlkV} {b8 ty : Nat} (B8 : Blk w b8 (bcells x) 44) (hl : Y.length ≤ 549755813888) {K : Value → World → Prop}
    (hK : ∀ s' w', Tr s2.ownBlock.toList w w' → Go.E.one s' = true → Blk w' b [s1, s2, s3] 59 → (∀ w'' : World, Upd w' b (.cells ([s1, s2, s3].set 1 s').toArray 59) w'' → PX P w0 w'' b s1 s' s3 X (Y ++ [x]) Z) → K s' w') :
    RunV cx.P (Builtin.append_ #[57, 57] ty #[s2, .slice (some ⟨b8, 0, none⟩) 1 1]) w K := by
  refine append_own cx_ok (x := ⟨1, 24, false, [.slice none 0 0], .slice 44⟩) rfl rfl rfl (by decide) h.r2 b8 0 1 1 (bcells x) rfl B8.all rfl (by omega) (by decide) ?_
  intro s' w' hr' t hat _
  have hz := h.tr0.size
  have a0 : (po b s1 s2 s3)[0]? = some (some b) := rfl
  have hne : ∀ c, s2.ownBlock = some c → ∀ (i : Nat) (d : Nat), (po b s1 s2 s3)[i]? = some (some d) → c = d → i = 2 := fun c hc i d hi e => fn_ne h.nodup hi (by rw [← e, ← hc]; rfl)
  have ho : ∀ c, s'.ownBlock = some c → s2.ownBlock = some c ∨ w.heap.size ≤ c := fun c hc => by
    rcases hat with e | e
    · exact .inl (e ▸ hc)
    · rw [e] at hc; exact .inr (by have := Option.some.inj hc; omega)
  obtain ⟨f1, f2⟩ := fn_set h.nodup h.lt (i := 2) (o := s2.ownBlock) rfl ho
  have hb : b ∉ s2.ownBlock.toList := fun hm => by have := hne b (by simpa using hm) 0 b a0 rfl; omega
  have hs'b : ∀ c, s'.ownBlock = some c → c ≠ b := fun c hc e => by
    rcases ho c hc with h1 | h1
    · exact hb (by simp [h1, e])
    · have := h.head.lt; omega
  have hoth : ∀ (i : Nat) (s : Value), i ≠ 2 → (po b s1 s2 s3)[i]? = some s.ownBlock → ∀ c, s.ownBlock = some c → c ∉ s2.ownBlock.toList := fun i s hi hs c hc hm => hi (hne c (by simpa using hm) i c (by rw [hs, hc]) rfl)
  have hnb : ∀ (i : Nat) (s : Value), i ≠ 0 → (po b s1 s2 s3)[i]? = some s.ownBlock → ∀ c, s.ownBlock = some c → c ∉ [b] := fun i s hi hs c hc hm => hi (fn_ne h.nodup (by rw [hs, hc]) (by rw [show c = b by simpa using hm]; exact a0))
  refine hK s' w' t (Row.one hr') (h.head.tr t hb) fun w'' u => ⟨u.blk, Row.tr (Row.tr h.r1 t (hoth 1 s1 (by decide) rfl)) u.tr (hnb 1 s1 (by decide) rfl), by rw [List.length_append, bcs_app]; exact Row.tr hr' u.tr fun c hc hm => hs'b c hc (by simpa using hm), Row.tr (Row.tr h.r3 t (hoth 3 s3 (by decide) rfl)) u.tr (hnb 3 s3 (by decide) rfl), f1, fun c hc => ?_, ?_⟩
  · rcases f2 c hc with h1 | h1
    · exact h.ge c h1
    · exact .inr (by omega)
  · have hge : ∀ c ∈ s2.ownBlock.toList, c ∈ P ∨ w0.heap.size ≤ c := fun c hc => by
      have e : s2.ownBlock = some c := by simpa using hc
      exact h.ge c (fn_mem.2 (by simp [po, e]))
    have hgb := h.ge b (fn_mem.2 (by simp [po]))
    exact (h.tr0.trans t (fun _ h => h) (fun c hc hlt => (hge c hc).resolve_right (by omega))).trans u.tr (fun _ h => h) (fun c hc hlt => by simp at hc; subst hc; exact hgb.resolve_right (by omega))

theorem app3 (h : PX P w0 w b s1 s2 s3 X Y Z) {x : Int} {b8 ty : Nat} (B8 : Blk w b8 [.int .i64 x] 3) (hl : Z.length ≤ 549755813888) {K : Value → World → Prop}
    (hK : ∀ s' w', Tr s3.ownBlock.toList w w' → Go.E.one s' = true → Blk w' b [s1, s2, s3] 59 → (∀ w'' : World, Upd w' b (.cells ([s1, s2, s3].set 2 s').toArray 59) w'' → PX P w0 w'' b s1 s2 s' X Y (Z ++ [x])) → K s' w') :
    RunV cx.P (Builtin.append_ #[51, 51] ty #[s3, .slice (some ⟨b8, 0, none⟩) 1 1]) w K := by
  refine append_own cx_ok (x := ⟨1, 24, false, [.slice none 0 0], .slice 3⟩) rfl rfl rfl (by decide) h.r3 b8 0 1 1 [.int .i64 x] rfl B8.all rfl (by omega) (by decide) ?_
  intro s' w' hr' t hat _
  have hz := h.tr0.size
  have a0 : (po b s1 s2 s3)[0]? = some (some b) := rfl
  have hne : ∀ c, s3.ownBlock = some c → ∀ (i : Nat) (d : Nat), (po b s1 s2 s3)[i]? = some (some d) → c = d → i = 3 := fun c hc i d hi e => fn_ne h.nodup hi (by rw [← e, ← hc]; rfl)
  have ho : ∀ c, s'.ownBlock = some c → s3.ownBlock = some c ∨ w.heap.size ≤ c := fun c hc => by
    rcases hat with e | e
    · exact .inl (e ▸ hc)
    · rw [e] at hc; exact .inr (by have := Option.some.inj hc; omega)
  obtain ⟨f1, f2⟩ := fn_set h.nodup h.lt (i := 3) (o := s3.ownBlock) rfl ho
  have hb : b ∉ s3.ownBlock.toList := fun hm => by have := hne b (by simpa using hm) 0 b a0 rfl; omega
  have hs'b : ∀ c, s'.ownBlock = some c → c ≠ b := fun c hc e => by
    rcases ho c hc with h1 | h1
    · exact hb (by simp [h1, e])
    · have := h.head.lt; omega
  have hoth : ∀ (i : Nat) (s : Value), i ≠ 3 → (po b s1 s2 s3)[i]? = some s.ownBlock → ∀ c, s.ownBlock = some c → c ∉ s3.ownBlock.toList := fun i s hi hs c hc hm => hi (hne c (by simpa using hm) i c (by rw [hs, hc]) rfl)
  have hnb : ∀ (i : Nat) (s : Value), i ≠ 0 → (po b s1 s2 s3)[i]? = some s.ownBlock → ∀ c, s.ownBlock = some c → c ∉ [b] := fun i s hi hs c hc hm => hi (fn_ne h.nodup (by rw [hs, hc]) (by rw [show c = b by simpa using hm]; exact a0))
  refine hK s' w' t (Row.one hr') (h.head.tr t hb) fun w'' u => ⟨u.blk, Row.tr (Row.tr h.r1 t (hoth 1 s1 (by decide) rfl)) u.tr (hnb 1 s1 (by decide) rfl), Row.tr (Row.tr h.r2 t (hoth 2 s2 (by decide) rfl)) u.tr (hnb 2 s2 (by decide) rfl), by rw [List.length_append, i64s_app]; exact Row.tr hr' u.tr fun c hc hm => hs'b c hc (by simpa using hm), f1, fun c hc => ?_, ?_⟩
  · rcases f2 c hc with h1 | h1
    · exact h.ge c h1
    · exact .inr (by omega)
  · have hge : ∀ c ∈ s3.ownBlock.toList, c ∈ P ∨ w0.heap.size ≤ c := fun c hc => by
      have e : s3.ownBlock = some c := by simpa using hc
      exact h.ge c (fn_mem.2 (by simp [po, e]))
    have hgb := h.ge b (fn_mem.2 (by simp [po]))
    exact (h.tr0.trans t (fun _ h => h) (fun c hc hlt => (hge c hc).resolve_right (by omega))).trans u.tr (fun _ h => h) (fun c hc hlt => by simp at hc; subst hc; exact hgb.resolve_right (by omega))

theorem rebase (h : PX P w0 w b s1 s2 s3 X Y Z) : PX ((po b s1 s2 s3).flatMap Option.toList) w w b s1 s2 s3 X Y Z :=
  ⟨h.head, h.r1, h.r2, h.r3, h.nodup, fun _c hc => .inl hc, Tr.refl _ _⟩
theorem unbase {w' : World} {s1' s2' s3' : Value} {X' : List Int} {Y' : List BlkV} {Z' : List Int} (h : PX P w0 w b s1 s2 s3 X Y Z) (h' : PX ((po b s1 s2 s3).flatMap Option.toList) w w' b s1' s2' s3' X' Y' Z') : PX P w0 w' b s1' s2' s3' X' Y' Z' := by
  have hz := h.tr0.size
  refine ⟨h'.head, h'.r1, h'.r2, h'.r3, h'.nodup, fun c hc => ?_, h.tr0.trans h'.tr0 (fun _ h => h) (fun c hc hlt => (h.ge c hc).resolve_right (by omega))⟩
  rcases h'.ge c hc with h1 | h1
  · exact h.ge c h1
  · exact .inr (by omega)

end PX

end Go.Proofs.YthepaakejpbppaaGreatDoor

/- class: Scan. -/
namespace Go.Proofs.YthepaakejpbppaaGreatDoor
open Go.E

theorem stOf_i64 {ld : Int → Int × Int} {n : Nat} (hn : InL n) {k j : Nat} {line : Int} (_hk : k ≤ chunksN n) (h : (stOf ld n k)[j]? = some line) : inI64 line := by
  have hc := hn.chunks
  unfold stOf startsL at h
  split at h
  · simp at h
  · rename_i hh
    obtain ⟨f1, f2, f3, f4⟩ := pow_facts (chunkVal ld n k).toNat (by omega)
    generalize 2 ^ (chunkVal ld n k).toNat = q at *
    generalize 16 / q = m at *
    rw [List.getElem?_map] at h
    obtain ⟨i, hi, rfl⟩ := Option.map_eq_some_iff.1 h
    have hi := (List.getElem?_eq_some_iff.1 hi)
    obtain ⟨h1, h2⟩ := hi
    simp at h1 h2
    subst h2
    have hle : j * q ≤ m * q := Nat.mul_le_mul_right q (by omega)
    unfold inI64
    constructor <;> omega

/-- What a scan returns. -/
def PicQ (w w' : World) (v : Value) (X : List Int) (Y : List BlkV) (Z : List Int) : Prop :=
  ∃ s1 s2 s3, v = .agg #[s1, s2, s3] ∧ SliD w' s1 X.length (i64s X) (fun b => w.heap.size ≤ b ∧ b < w'.heap.size) ∧ SliD w' s2 Y.length (bcs Y) (fun b => w.heap.size ≤ b ∧ b < w'.heap.size) ∧ SliD w' s3 Z.length (i64s Z) (fun b => w.heap.size ≤ b ∧ b < w'.heap.size)

section
variable {w : World} {n p : Nat} {L : List Ln} {span N : Nat} {F : List Nat}

set_option maxHeartbeats 4000000 in
theorem Scan_calls (h : IMem w p L span N F) (hg : Gl w) (hn : InL n) :
    Calls cx.P 22 #[.pointer (some ⟨p, 0, none⟩), .agg (lcs n).toArray] w (Ret fun v w' => Tr [] w w' ∧ PicQ w w' v (scanC (loadL L) n) (scanB (loadL L) n) (scanX (loadL L) n)) := by
  have hch := hn.chunks
  have hld := loadL_ok h.ok
  refine calls_body cx_ok (args := [.pointer (some ⟨p, 0, none⟩), .agg (lcs n).toArray]) Tryz.func22 rfl 67 rfl rfl [.cell 4 59] rfl ?_
  intro b3 w1 n1 b4 w2 n2
  have e1 := n1.num; have e2 := n2.num; have z1 := n1.size; have z2 := n2.size
  have B3 : Blk w2 b3 (lcs n) 28 := (show Blk w1 b3 _ _ from n1.blk).ext n2.tr
  have B4 : Blk w2 b4 [.slice none 0 0, .slice none 0 0, .slice none 0 0] 59 := n2.blk
  have t2 := n1.tr.ext n2.tr
  obtain ⟨ld, hldE⟩ : ∃ ld, ld = loadL L := ⟨_, rfl⟩
  rw [← hldE] at hld ⊢
  have hto : ∀ W, Tr [] w2 W → IMem W p L span N F ∧ Gl W := fun W t => ⟨h.ext (t2.ext t), hg.ext (t2.ext t)⟩
  refine ⟨_, rfl, ?_⟩
  intro b5 w3 n3
  have e3 := n3.num; have z3 := n3.size
  refine ⟨_, _, n3.blk, rfl, by show 0 + 3 ≤ 3; decide, rfl, fun w4 u4 => ?_⟩
  have px0 : PX [] w2 w4 b5 (.slice none 0 0) (.slice none 0 0) (.slice none 0 0) [] [] [] :=
    ⟨u4.blk, World.ownsRow_nil _ _ _ _, World.ownsRow_nil _ _ _ _, World.ownsRow_nil _ _ _ _, by simp [po, Value.ownBlock], fun c hc => .inr (by simp [po, Value.ownBlock] at hc; omega), u4.ext n3.tr (by omega)⟩
  refine ⟨_, (B3.ext px0.tr0).cell rfl, ?_⟩
  refine loop_rule cx_ok (fun (k : Nat) W => k ≤ chunksN n ∧ ∃ s1 s2 s3, PX [] w2 W b5 s1 s2 s3 (chunksK ld n k) (blksOf ld n (startsK ld n k)) (badOf ld n (startsK ld n k)))
    (fun k : Nat => [(0, .pointer (some ⟨p, 0, none⟩)), (3, .pointer (some ⟨b3, 0, none⟩)), (4, .pointer (some ⟨b4, 0, none⟩)), (5, .pointer (some ⟨b5, 0, none⟩)), (15, .int .i64 (chunksN n : Nat)), (16, .int .i64 (k : Nat))]) (fun k => chunksN n - k) 0 ⟨rfl, rfl, rfl, rfl, rfl, rfl, trivial⟩ ⟨by omega, _, _, _, px0⟩ ?_
  rintro k W0 ⟨hk, s1, s2, s3, pxk⟩
  have h0 := hto W0 pxk.tr0
  refine ⟨fun hlt => ?_, fun hge => ?_⟩
  · refine ⟨_, (B3.ext pxk.tr0).all, rfl, ?_⟩
    refine call (Assigned_calls h0.1 h0.2 hn (k : Nat)) ?_
    rintro _ w6 ⟨rfl, t6⟩
    rw [← hldE]
    have px := pxk.ext t6
    refine ⟨fun he => ?_, fun he => ?_⟩
    · obtain ⟨cv, hcv, hce⟩ : ∃ cv, cv = chunkVal ld n (k : Nat) ∧ (assignedL ld n (k : Nat)).1 = cv := ⟨_, rfl, by unfold chunkVal; rw [if_neg (fun h => h he)]⟩
      rw [hce]
      refine ⟨_, px.head.cell rfl, _, rfl, fun b8 w8 n8 => ?_⟩
      refine (px.ext n8.tr).app1 n8.blk (by simp [chunksK]; omega) fun s1' w9 _ hone hb9 hK => ?_
      refine ⟨_, _, hb9, by show 0 < 3; decide, hone, fun w10 u10 => ?_⟩
      have px' := hK w10 u10
      rw [hcv, ← chunksK_succ] at px'
      have h10 := hto w10 px'.tr0
      refine ⟨_, (B3.ext px'.tr0).all, rfl, ?_⟩
      refine call (Starts_calls w10 hn k cv (by unfold inI64; omega)) ?_
      rintro sv w11 ⟨t11, hr11, hf11⟩
      have px11 := px'.ext t11
      have hst : startsL n (k : Nat) cv = stOf ld n k := by rw [hcv]; rfl
      rw [hst] at hr11
      obtain ⟨ad, c, hsv⟩ := Row.slice hr11
      subst hsv
      have hlen : (stOf ld n k).length ≤ 16 := startsL_len _ _ _
      refine loop_rule cx_ok (fun (j : Nat) W => j ≤ (stOf ld n k).length ∧ ∃ a1 a2 a3, PX ((po b5 s1' s2 s3).flatMap Option.toList) w11 W b5 a1 a2 a3 (chunksK ld n (k + 1)) (blksOf ld n (startsK ld n k ++ (stOf ld n k).take j)) (badOf ld n (startsK ld n k ++ (stOf ld n k).take j)))
        (fun j : Nat => [(0, .pointer (some ⟨p, 0, none⟩)), (3, .pointer (some ⟨b3, 0, none⟩)), (4, .pointer (some ⟨b4, 0, none⟩)), (5, .pointer (some ⟨b5, 0, none⟩)), (15, .int .i64 (chunksN n : Nat)), (16, .int .i64 (k : Nat)), (37, .slice ad (stOf ld n k).length c), (38, .int .i64 ((stOf ld n k).length : Nat)), (39, .int .i64 (j : Nat))]) (fun j => (stOf ld n k).length - j) 0 ⟨rfl, rfl, rfl, rfl, rfl, rfl, rfl, rfl, rfl, trivial⟩ ⟨by omega, s1', s2, s3, by rw [List.take_zero, List.append_nil]; exact px11.rebase⟩ ?_
      rintro j W ⟨hj, a1, a2, a3, pxj⟩
      have pxW := px11.unbase pxj
      have hW := hto W pxW.tr0
      have B3W := B3.ext pxW.tr0
      refine ⟨fun hlt => ?_, fun hge => ?_⟩
      · have hjl : j < (stOf ld n k).length := by omega
        obtain ⟨line, hline⟩ : ∃ line, line = (stOf ld n k)[j] := ⟨_, rfl⟩
        have hlg : (stOf ld n k)[j]? = some line := by rw [hline]; exact List.getElem?_eq_getElem hjl
        rcases Row.elem hr11 with ⟨_, h0⟩ | ⟨g, cap, hv, _, _, hcs⟩
        · omega
        obtain ⟨rfl, _, rfl⟩ := Value.slice.inj hv
        have hgp : g ∉ (po b5 s1' s2 s3).flatMap Option.toList := fun hm => by
          have h1 := px'.lt g hm
          have h2 := hf11 g rfl
          omega
        have hcell : W.cell? ⟨g, 0 + j * 1, none⟩ = some (.int .i64 line) := by
          rw [Nat.mul_one]
          exact pxj.tr0.cell (hcs j _ (i64s_get hlg)) hgp
        have htake : (stOf ld n k).take (j + 1) = (stOf ld n k).take j ++ [line] := take_snoc hlg
        have hli := stOf_i64 hn hk hlg
        have hl1 := blksOf_len ld n (startsK ld n k ++ (stOf ld n k).take j)
        have hl2 := badOf_len ld n (startsK ld n k ++ (stOf ld n k).take j)
        have hl3 := startsK_len ld n k
        have hl4 : (startsK ld n k ++ (stOf ld n k).take j).length ≤ 16 * k + 16 := by rw [List.length_append, List.length_take]; omega
        refine ⟨j, rfl, hjl, _, hcell, ?_⟩
        refine ⟨_, B3W.all, rfl, ?_⟩
        refine call (Block_calls hW.1 hW.2 hn line hli) ?_
        rintro _ w12 ⟨rfl, t12⟩
        rw [← hldE]
        intro b11 w13 n13
        have e13 := n13.num; have z13 := n13.size
        refine ⟨_, _, n13.blk, rfl, by show 0 + 4 ≤ 4; decide, rfl, fun w14 u14 => ?_⟩
        have tW := u14.ext (t12.ext n13.tr) (by have := t12.size; omega)
        have B11 : Blk w14 b11 (bcells (blockL ld n line).1) 44 := u14.blk
        have px14 := pxj.ext tW
        refine ⟨fun h0 => ?_, fun h0 => ?_⟩
        · obtain ⟨f1, f2⟩ := blksOf_ok (xs := startsK ld n k ++ (stOf ld n k).take j) h0
          refine ⟨_, px14.head.cell rfl, _, B11.all, rfl, _, rfl, fun b15 w15 n15 => ?_⟩
          refine (px14.ext n15.tr).app2 n15.blk (by omega) fun s2' w16 _ hone' hb16 hK' => ?_
          refine ⟨_, _, hb16, by show 1 < 3; decide, hone', fun w17 u17 => ?_⟩
          refine ⟨((j + 1 : Nat) : Int), by rw [w64 (by omega)]; omega, ?_⟩
          exact ⟨rfl, j + 1, ⟨rfl, rfl, rfl, rfl, rfl, rfl, rfl, rfl, rfl, trivial⟩, ⟨hjl, a1, s2', a3, by rw [htake, ← List.append_assoc, f1, f2]; exact hK' w17 u17⟩, by omega⟩
        · obtain ⟨f1, f2⟩ := blksOf_no (xs := startsK ld n k ++ (stOf ld n k).take j) h0
          refine ⟨_, px14.head.cell rfl, _, rfl, fun b15 w15 n15 => ?_⟩
          refine (px14.ext n15.tr).app3 n15.blk (by omega) fun s3' w16 _ hone' hb16 hK' => ?_
          refine ⟨_, _, hb16, by show 2 < 3; decide, hone', fun w17 u17 => ?_⟩
          refine ⟨((j + 1 : Nat) : Int), by rw [w64 (by omega)]; omega, ?_⟩
          exact ⟨rfl, j + 1, ⟨rfl, rfl, rfl, rfl, rfl, rfl, rfl, rfl, rfl, trivial⟩, ⟨hjl, a1, a2, s3', by rw [htake, ← List.append_assoc, f1, f2]; exact hK' w17 u17⟩, by omega⟩
      · have hjl : j = (stOf ld n k).length := by omega
        subst hjl
        rw [List.take_length, ← startsK_succ] at pxW
        refine ⟨((k + 1 : Nat) : Int), by rw [w64 (by omega)]; omega, ?_⟩
        exact ⟨rfl, k + 1, ⟨rfl, rfl, rfl, rfl, rfl, rfl, trivial⟩, ⟨by omega, a1, a2, a3, pxW⟩, by omega⟩
    · obtain ⟨cv, hcv, hce⟩ : ∃ cv, cv = chunkVal ld n (k : Nat) ∧ (-2 : Int) = cv := ⟨_, rfl, by unfold chunkVal; rw [if_pos he]⟩
      rw [hce]
      refine ⟨_, px.head.cell rfl, _, rfl, fun b8 w8 n8 => ?_⟩
      refine (px.ext n8.tr).app1 n8.blk (by simp [chunksK]; omega) fun s1' w9 _ hone hb9 hK => ?_
      refine ⟨_, _, hb9, by show 0 < 3; decide, hone, fun w10 u10 => ?_⟩
      have px' := hK w10 u10
      rw [hcv, ← chunksK_succ] at px'
      have h10 := hto w10 px'.tr0
      refine ⟨_, (B3.ext px'.tr0).all, rfl, ?_⟩
      refine call (Starts_calls w10 hn k cv (by unfold inI64; omega)) ?_
      rintro sv w11 ⟨t11, hr11, hf11⟩
      have px11 := px'.ext t11
      have hst : startsL n (k : Nat) cv = stOf ld n k := by rw [hcv]; rfl
      rw [hst] at hr11
      obtain ⟨ad, c, hsv⟩ := Row.slice hr11
      subst hsv
      have hlen : (stOf ld n k).length ≤ 16 := startsL_len _ _ _
      refine loop_rule cx_ok (fun (j : Nat) W => j ≤ (stOf ld n k).length ∧ ∃ a1 a2 a3, PX ((po b5 s1' s2 s3).flatMap Option.toList) w11 W b5 a1 a2 a3 (chunksK ld n (k + 1)) (blksOf ld n (startsK ld n k ++ (stOf ld n k).take j)) (badOf ld n (startsK ld n k ++ (stOf ld n k).take j)))
        (fun j : Nat => [(0, .pointer (some ⟨p, 0, none⟩)), (3, .pointer (some ⟨b3, 0, none⟩)), (4, .pointer (some ⟨b4, 0, none⟩)), (5, .pointer (some ⟨b5, 0, none⟩)), (15, .int .i64 (chunksN n : Nat)), (16, .int .i64 (k : Nat)), (37, .slice ad (stOf ld n k).length c), (38, .int .i64 ((stOf ld n k).length : Nat)), (39, .int .i64 (j : Nat))]) (fun j => (stOf ld n k).length - j) 0 ⟨rfl, rfl, rfl, rfl, rfl, rfl, rfl, rfl, rfl, trivial⟩ ⟨by omega, s1', s2, s3, by rw [List.take_zero, List.append_nil]; exact px11.rebase⟩ ?_
      rintro j W ⟨hj, a1, a2, a3, pxj⟩
      have pxW := px11.unbase pxj
      have hW := hto W pxW.tr0
      have B3W := B3.ext pxW.tr0
      refine ⟨fun hlt => ?_, fun hge => ?_⟩
      · have hjl : j < (stOf ld n k).length := by omega
        obtain ⟨line, hline⟩ : ∃ line, line = (stOf ld n k)[j] := ⟨_, rfl⟩
        have hlg : (stOf ld n k)[j]? = some line := by rw [hline]; exact List.getElem?_eq_getElem hjl
        rcases Row.elem hr11 with ⟨_, h0⟩ | ⟨g, cap, hv, _, _, hcs⟩
        · omega
        obtain ⟨rfl, _, rfl⟩ := Value.slice.inj hv
        have hgp : g ∉ (po b5 s1' s2 s3).flatMap Option.toList := fun hm => by
          have h1 := px'.lt g hm
          have h2 := hf11 g rfl
          omega
        have hcell : W.cell? ⟨g, 0 + j * 1, none⟩ = some (.int .i64 line) := by
          rw [Nat.mul_one]
          exact pxj.tr0.cell (hcs j _ (i64s_get hlg)) hgp
        have htake : (stOf ld n k).take (j + 1) = (stOf ld n k).take j ++ [line] := take_snoc hlg
        have hli := stOf_i64 hn hk hlg
        have hl1 := blksOf_len ld n (startsK ld n k ++ (stOf ld n k).take j)
        have hl2 := badOf_len ld n (startsK ld n k ++ (stOf ld n k).take j)
        have hl3 := startsK_len ld n k
        have hl4 : (startsK ld n k ++ (stOf ld n k).take j).length ≤ 16 * k + 16 := by rw [List.length_append, List.length_take]; omega
        refine ⟨j, rfl, hjl, _, hcell, ?_⟩
        refine ⟨_, B3W.all, rfl, ?_⟩
        refine call (Block_calls hW.1 hW.2 hn line hli) ?_
        rintro _ w12 ⟨rfl, t12⟩
        rw [← hldE]
        intro b11 w13 n13
        have e13 := n13.num; have z13 := n13.size
        refine ⟨_, _, n13.blk, rfl, by show 0 + 4 ≤ 4; decide, rfl, fun w14 u14 => ?_⟩
        have tW := u14.ext (t12.ext n13.tr) (by have := t12.size; omega)
        have B11 : Blk w14 b11 (bcells (blockL ld n line).1) 44 := u14.blk
        have px14 := pxj.ext tW
        refine ⟨fun h0 => ?_, fun h0 => ?_⟩
        · obtain ⟨f1, f2⟩ := blksOf_ok (xs := startsK ld n k ++ (stOf ld n k).take j) h0
          refine ⟨_, px14.head.cell rfl, _, B11.all, rfl, _, rfl, fun b15 w15 n15 => ?_⟩
          refine (px14.ext n15.tr).app2 n15.blk (by omega) fun s2' w16 _ hone' hb16 hK' => ?_
          refine ⟨_, _, hb16, by show 1 < 3; decide, hone', fun w17 u17 => ?_⟩
          refine ⟨((j + 1 : Nat) : Int), by rw [w64 (by omega)]; omega, ?_⟩
          exact ⟨rfl, j + 1, ⟨rfl, rfl, rfl, rfl, rfl, rfl, rfl, rfl, rfl, trivial⟩, ⟨hjl, a1, s2', a3, by rw [htake, ← List.append_assoc, f1, f2]; exact hK' w17 u17⟩, by omega⟩
        · obtain ⟨f1, f2⟩ := blksOf_no (xs := startsK ld n k ++ (stOf ld n k).take j) h0
          refine ⟨_, px14.head.cell rfl, _, rfl, fun b15 w15 n15 => ?_⟩
          refine (px14.ext n15.tr).app3 n15.blk (by omega) fun s3' w16 _ hone' hb16 hK' => ?_
          refine ⟨_, _, hb16, by show 2 < 3; decide, hone', fun w17 u17 => ?_⟩
          refine ⟨((j + 1 : Nat) : Int), by rw [w64 (by omega)]; omega, ?_⟩
          exact ⟨rfl, j + 1, ⟨rfl, rfl, rfl, rfl, rfl, rfl, rfl, rfl, rfl, trivial⟩, ⟨hjl, a1, a2, s3', by rw [htake, ← List.append_assoc, f1, f2]; exact hK' w17 u17⟩, by omega⟩
      · have hjl : j = (stOf ld n k).length := by omega
        subst hjl
        rw [List.take_length, ← startsK_succ] at pxW
        refine ⟨((k + 1 : Nat) : Int), by rw [w64 (by omega)]; omega, ?_⟩
        exact ⟨rfl, k + 1, ⟨rfl, rfl, rfl, rfl, rfl, rfl, trivial⟩, ⟨by omega, a1, a2, a3, pxW⟩, by omega⟩
  · have hkn : k = chunksN n := by omega
    subst hkn
    have B4W := B4.ext pxk.tr0
    have hb45 : b4 < b5 := by omega
    refine ⟨_, pxk.head.all, rfl, _, _, B4W, rfl, by show 0 + 3 ≤ 3; decide, by obtain ⟨_, _, x1⟩ := Row.slice pxk.r1; obtain ⟨_, _, x2⟩ := Row.slice pxk.r2; obtain ⟨_, _, x3⟩ := Row.slice pxk.r3; rw [x1, x2, x3]; rfl, fun w7 u7 => ?_⟩
    have hz := pxk.tr0.size; have zu := u7.size
    refine ⟨_, u7.blk.all, rfl, u7.ext (t2.ext pxk.tr0) (by omega), s1, s2, s3, rfl, ?_, ?_, ?_⟩
    · exact ((Row.slid pxk.r1).tr u7.tr fun c hc hm => by simp at hc; have := pxk.ge c (fn_mem.2 (by simp [po, hm])); have := Row.lt pxk.r1 hm; simp at *; omega).mono fun c hc => by have := pxk.ge c (fn_mem.2 (by simp [po, hc])); have := Row.lt pxk.r1 hc; simp at *; omega
    · exact ((Row.slid pxk.r2).tr u7.tr fun c hc hm => by simp at hc; have := pxk.ge c (fn_mem.2 (by simp [po, hm])); have := Row.lt pxk.r2 hm; simp at *; omega).mono fun c hc => by have := pxk.ge c (fn_mem.2 (by simp [po, hc])); have := Row.lt pxk.r2 hc; simp at *; omega
    · exact ((Row.slid pxk.r3).tr u7.tr fun c hc hm => by simp at hc; have := pxk.ge c (fn_mem.2 (by simp [po, hm])); have := Row.lt pxk.r3 hm; simp at *; omega).mono fun c hc => by have := pxk.ge c (fn_mem.2 (by simp [po, hc])); have := Row.lt pxk.r3 hc; simp at *; omega

end

end Go.Proofs.YthepaakejpbppaaGreatDoor

/- class: the specification's Scan. -/
namespace Go.Proofs.YthepaakejpbppaaGreatDoor
open Go.E

section
variable {w : World} {n p : Nat} {L : List Ln} {span N : Nat} {F : List Nat}

set_option maxHeartbeats 4000000 in
theorem Scan11_calls (h : RMem w p L span N F) (hn : InL n) :
    Calls cx.P 24 #[.pointer (some ⟨p, 0, none⟩), .agg (lcs n).toArray] w (Ret fun v w' => Tr [] w w' ∧ PicQ w w' v (scanC (loadL L) n) (scanB (loadL L) n) (scanX (loadL L) n)) := by
  have hch := hn.chunks
  have hld := loadL_ok h.ok
  refine calls_body cx_ok (args := [.pointer (some ⟨p, 0, none⟩), .agg (lcs n).toArray]) Tryz.func24 rfl 73 rfl rfl [.cell 4 59] rfl ?_
  intro b3 w1 n1 b4 w2 n2
  have e1 := n1.num; have e2 := n2.num; have z1 := n1.size; have z2 := n2.size
  have B3 : Blk w2 b3 (lcs n) 28 := (show Blk w1 b3 _ _ from n1.blk).ext n2.tr
  have B4 : Blk w2 b4 [.slice none 0 0, .slice none 0 0, .slice none 0 0] 59 := n2.blk
  have t2 := n1.tr.ext n2.tr
  obtain ⟨ld, hldE⟩ : ∃ ld, ld = loadL L := ⟨_, rfl⟩
  rw [← hldE] at hld ⊢
  have hto : ∀ W, Tr [] w2 W → RMem W p L span N F := fun W t => h.ext (t2.ext t)
  refine ⟨_, rfl, ?_⟩
  intro b5 w3 n3
  have e3 := n3.num; have z3 := n3.size
  refine ⟨_, _, n3.blk, rfl, by show 0 + 3 ≤ 3; decide, rfl, fun w4 u4 => ?_⟩
  have px0 : PX [] w2 w4 b5 (.slice none 0 0) (.slice none 0 0) (.slice none 0 0) [] [] [] :=
    ⟨u4.blk, World.ownsRow_nil _ _ _ _, World.ownsRow_nil _ _ _ _, World.ownsRow_nil _ _ _ _, by simp [po, Value.ownBlock], fun c hc => .inr (by simp [po, Value.ownBlock] at hc; omega), u4.ext n3.tr (by omega)⟩
  refine loop_rule cx_ok (fun (k : Nat) W => k ≤ chunksN n ∧ ∃ s1 s2 s3, PX [] w2 W b5 s1 s2 s3 (chunksK ld n k) (blksOf ld n (startsK ld n k)) (badOf ld n (startsK ld n k)))
    (fun k : Nat => [(0, .pointer (some ⟨p, 0, none⟩)), (3, .pointer (some ⟨b3, 0, none⟩)), (4, .pointer (some ⟨b4, 0, none⟩)), (5, .pointer (some ⟨b5, 0, none⟩)), (6, .int .i64 (k : Nat))]) (fun k => chunksN n - k) 0 ⟨rfl, rfl, rfl, rfl, rfl, trivial⟩ ⟨by omega, _, _, _, px0⟩ ?_
  rintro k W0 ⟨hk, s1, s2, s3, pxk⟩
  have h0 := hto W0 pxk.tr0
  refine ⟨_, (B3.ext pxk.tr0).cell rfl, ?_⟩
  refine ⟨fun hlt => ?_, fun hge => ?_⟩
  · refine ⟨_, (B3.ext pxk.tr0).all, rfl, ?_⟩
    refine call (Assigned11_calls h0 hn (k : Nat)) ?_
    rintro _ w6 ⟨rfl, t6⟩
    rw [← hldE]
    have px := pxk.ext t6
    refine ⟨fun he => ?_, fun he => ?_⟩
    · obtain ⟨cv, hcv, hce⟩ : ∃ cv, cv = chunkVal ld n (k : Nat) ∧ (assignedL ld n (k : Nat)).1 = cv := ⟨_, rfl, by unfold chunkVal; rw [if_neg (fun h => h he)]⟩
      rw [hce]
      refine ⟨_, px.head.cell rfl, _, rfl, fun b8 w8 n8 => ?_⟩
      refine (px.ext n8.tr).app1 n8.blk (by simp [chunksK]; omega) fun s1' w9 _ hone hb9 hK => ?_
      refine ⟨_, _, hb9, by show 0 < 3; decide, hone, fun w10 u10 => ?_⟩
      have px' := hK w10 u10
      rw [hcv, ← chunksK_succ] at px'
      have h10 := hto w10 px'.tr0
      refine ⟨_, (B3.ext px'.tr0).all, rfl, ?_⟩
      refine call (Starts11_calls w10 hn k cv (by unfold inI64; omega)) ?_
      rintro sv w11 ⟨t11, hr11, hf11⟩
      have px11 := px'.ext t11
      have hst : startsL n (k : Nat) cv = stOf ld n k := by rw [hcv]; rfl
      rw [hst] at hr11
      obtain ⟨ad, c, hsv⟩ := Row.slice hr11
      subst hsv
      have hlen : (stOf ld n k).length ≤ 16 := startsL_len _ _ _
      refine loop_rule cx_ok (fun (j : Nat) W => j ≤ (stOf ld n k).length ∧ ∃ a1 a2 a3, PX ((po b5 s1' s2 s3).flatMap Option.toList) w11 W b5 a1 a2 a3 (chunksK ld n (k + 1)) (blksOf ld n (startsK ld n k ++ (stOf ld n k).take j)) (badOf ld n (startsK ld n k ++ (stOf ld n k).take j)))
        (fun j : Nat => [(0, .pointer (some ⟨p, 0, none⟩)), (3, .pointer (some ⟨b3, 0, none⟩)), (4, .pointer (some ⟨b4, 0, none⟩)), (5, .pointer (some ⟨b5, 0, none⟩)), (6, .int .i64 (k : Nat)), (9, .slice ad (stOf ld n k).length c), (10, .int .i64 (j : Nat))]) (fun j => (stOf ld n k).length - j) 0 ⟨rfl, rfl, rfl, rfl, rfl, rfl, rfl, trivial⟩ ⟨by omega, s1', s2, s3, by rw [List.take_zero, List.append_nil]; exact px11.rebase⟩ ?_
      rintro j W ⟨hj, a1, a2, a3, pxj⟩
      have pxW := px11.unbase pxj
      have hW := hto W pxW.tr0
      have B3W := B3.ext pxW.tr0
      refine ⟨fun hlt => ?_, fun hge => ?_⟩
      · have hjl : j < (stOf ld n k).length := by omega
        obtain ⟨line, hline⟩ : ∃ line, line = (stOf ld n k)[j] := ⟨_, rfl⟩
        have hlg : (stOf ld n k)[j]? = some line := by rw [hline]; exact List.getElem?_eq_getElem hjl
        rcases Row.elem hr11 with ⟨_, h0⟩ | ⟨g, cap, hv, _, _, hcs⟩
        · omega
        obtain ⟨rfl, _, rfl⟩ := Value.slice.inj hv
        have hgp : g ∉ (po b5 s1' s2 s3).flatMap Option.toList := fun hm => by
          have h1 := px'.lt g hm
          have h2 := hf11 g rfl
          omega
        have hcell : W.cell? ⟨g, 0 + j * 1, none⟩ = some (.int .i64 line) := by
          rw [Nat.mul_one]
          exact pxj.tr0.cell (hcs j _ (i64s_get hlg)) hgp
        have htake : (stOf ld n k).take (j + 1) = (stOf ld n k).take j ++ [line] := take_snoc hlg
        have hli := stOf_i64 hn hk hlg
        have hl1 := blksOf_len ld n (startsK ld n k ++ (stOf ld n k).take j)
        have hl2 := badOf_len ld n (startsK ld n k ++ (stOf ld n k).take j)
        have hl3 := startsK_len ld n k
        have hl4 : (startsK ld n k ++ (stOf ld n k).take j).length ≤ 16 * k + 16 := by rw [List.length_append, List.length_take]; omega
        refine cut_rule (α := Nat) (fun b11 => [(0, .pointer (some ⟨p, 0, none⟩)), (3, .pointer (some ⟨b3, 0, none⟩)), (4, .pointer (some ⟨b4, 0, none⟩)), (5, .pointer (some ⟨b5, 0, none⟩)), (6, .int .i64 (k : Nat)), (9, .slice (some ⟨g, 0, none⟩) (stOf ld n k).length c), (10, .int .i64 (j : Nat)), (11, .pointer (some ⟨b11, 0, none⟩)), (12, .int .i64 (blockL ld n line).2)])
          (fun b11 W' => Tr [] W W' ∧ Blk W' b11 (bcells (blockL ld n line).1) 44) ?_ ?_
        · refine draw_rule cx_ok [] (Plan.takes [0, 1, 2, 3, 4, 5] (.alt true 6 (Plan.takes [7, 8, 9] (.one true 10 (.one true 11 (Plan.takes [12] .done)))) (.alt true 10 (.one true 6 (Plan.takes [7, 8, 9] (.one true 11 (Plan.takes [12] .done)))) .stop))) (by kernel_rfl) ?_
          intro w12 d
          have zd := d.tr.size
          refine ⟨_, fun w' t => B3W.all.tr t (by simp), rfl, j, rfl, hjl, _, fun w' t => t.cell hcell (by simp), ?_⟩
          refine ⟨?_, ?_, trivial⟩
          · refine call (Block11_calls (hW.ext d.tr) hn line hli) ?_
            rintro _ w13 ⟨rfl, t13⟩
            rw [← hldE]
            have q13 := d.tr.ext t13
            have z13 := q13.size
            refine ⟨q13, ?_⟩
            refine ⟨?_, trivial⟩
            intro b11 w14 n14
            have e14 := n14.num; have z14 := n14.size
            refine ⟨q13.ext n14.tr, ?_⟩
            refine ⟨⟨_, _, n14.blk, rfl, by show 0 + 4 ≤ 4; decide, rfl, fun w15 u15 => ?_⟩, trivial⟩
            have q15 := u15.ext (q13.ext n14.tr) (by omega)
            exact ⟨q15, rfl, b11, ⟨rfl, rfl, rfl, rfl, rfl, rfl, rfl, rfl, rfl, trivial⟩, q15, u15.blk⟩
          · intro b11 w14 n14
            have e14 := n14.num; have z14 := n14.size
            refine ⟨d.tr.ext n14.tr, ?_⟩
            refine ⟨?_, trivial⟩
            refine call (Block11_calls (hW.ext (d.tr.ext n14.tr)) hn line hli) ?_
            rintro _ w13 ⟨rfl, t13⟩
            rw [← hldE]
            have q13 := (d.tr.ext n14.tr).ext t13
            refine ⟨q13, ?_⟩
            refine ⟨⟨_, _, (show Blk w14 b11 _ _ from n14.blk).ext t13, rfl, by show 0 + 4 ≤ 4; decide, rfl, fun w15 u15 => ?_⟩, trivial⟩
            have q15 := u15.ext q13 (by omega)
            exact ⟨q15, rfl, b11, ⟨rfl, rfl, rfl, rfl, rfl, rfl, rfl, rfl, rfl, trivial⟩, q15, u15.blk⟩
        rintro b11 w14 ⟨tW, B11⟩
        have px14 := pxj.ext tW
        refine ⟨fun h0 => ?_, fun h0 => ?_⟩
        · obtain ⟨f1, f2⟩ := blksOf_ok (xs := startsK ld n k ++ (stOf ld n k).take j) h0
          refine ⟨_, px14.head.cell rfl, _, B11.all, rfl, _, rfl, fun b15 w15 n15 => ?_⟩
          refine (px14.ext n15.tr).app2 n15.blk (by omega) fun s2' w16 _ hone' hb16 hK' => ?_
          refine ⟨_, _, hb16, by show 1 < 3; decide, hone', fun w17 u17 => ?_⟩
          refine ⟨((j + 1 : Nat) : Int), by rw [w64 (by omega)]; omega, ?_⟩
          exact ⟨rfl, j + 1, ⟨rfl, rfl, rfl, rfl, rfl, rfl, rfl, trivial⟩, ⟨hjl, a1, s2', a3, by rw [htake, ← List.append_assoc, f1, f2]; exact hK' w17 u17⟩, by omega⟩
        · obtain ⟨f1, f2⟩ := blksOf_no (xs := startsK ld n k ++ (stOf ld n k).take j) h0
          obtain ⟨XX, hXX⟩ : ∃ XX : List Nat, XX = a3.ownBlock.toList := ⟨_, rfl⟩
          have hbX : b5 ∉ XX := fun hm => by
            rw [hXX] at hm
            have := fn_ne px14.nodup (l := po b5 a1 a2 a3) (i := 0) (j := 3) (b := b5) rfl (by rw [show (po b5 a1 a2 a3)[3]? = some a3.ownBlock from rfl, show a3.ownBlock = some b5 by simpa using hm])
            omega
          refine draw_rule cx_ok XX (Plan.takes [0, 1, 2, 3, 4, 5] (.one true 6 (.one true 7 (.one true 8 (.one false 9 .done))))) (by kernel_rfl) ?_
          intro w15 d
          have hgX : g ∉ XX := fun hm => by
            rw [hXX] at hm
            have hm : a3.ownBlock = some g := by simpa using hm
            rcases pxj.ge g (fn_mem.2 (by simp [po, hm])) with h1 | h1
            · exact hgp h1
            · have := Row.lt hr11 (b := g) rfl; omega
          refine ⟨_, fun w' t => t.cell (px14.head.cell rfl) hbX, j, rfl, hjl, _, fun w' t => t.cell (tW.cell hcell (by simp)) hgX, ?_⟩
          refine ⟨⟨_, rfl, fun b15 w16 n15 => ⟨(d.tr.ext n15.tr).of_ext, ?_, trivial⟩⟩, trivial⟩
          have q16 := d.tr.ext n15.tr
          refine (px14.ext q16).app3 n15.blk (by omega) fun s3' w17 t17 hone' hb17 hK' => ?_
          have hS : Tr XX w14 w17 := by rw [hXX]; exact q16.of_ext.trans t17 (fun _ h => h) (fun _ h _ => h)
          refine ⟨hS, ⟨hS, ⟨⟨_, _, hb17, by show 2 < 3; decide, hone', fun w18 u18 => ?_⟩, trivial⟩⟩, trivial⟩
          refine ⟨((j + 1 : Nat) : Int), by rw [w64 (by omega)]; omega, ?_⟩
          exact ⟨rfl, j + 1, ⟨rfl, rfl, rfl, rfl, rfl, rfl, rfl, trivial⟩, ⟨hjl, a1, a2, s3', by rw [htake, ← List.append_assoc, f1, f2]; exact hK' w18 u18⟩, by omega⟩
      · have hjl : j = (stOf ld n k).length := by omega
        subst hjl
        rw [List.take_length, ← startsK_succ] at pxW
        refine ⟨((k + 1 : Nat) : Int), by rw [w64 (by omega)]; omega, ?_⟩
        exact ⟨rfl, k + 1, ⟨rfl, rfl, rfl, rfl, rfl, trivial⟩, ⟨by omega, a1, a2, a3, pxW⟩, by omega⟩
    · obtain ⟨cv, hcv, hce⟩ : ∃ cv, cv = chunkVal ld n (k : Nat) ∧ (-2 : Int) = cv := ⟨_, rfl, by unfold chunkVal; rw [if_pos he]⟩
      rw [hce]
      refine ⟨_, px.head.cell rfl, _, rfl, fun b8 w8 n8 => ?_⟩
      refine (px.ext n8.tr).app1 n8.blk (by simp [chunksK]; omega) fun s1' w9 _ hone hb9 hK => ?_
      refine ⟨_, _, hb9, by show 0 < 3; decide, hone, fun w10 u10 => ?_⟩
      have px' := hK w10 u10
      rw [hcv, ← chunksK_succ] at px'
      have h10 := hto w10 px'.tr0
      refine ⟨_, (B3.ext px'.tr0).all, rfl, ?_⟩
      refine call (Starts11_calls w10 hn k cv (by unfold inI64; omega)) ?_
      rintro sv w11 ⟨t11, hr11, hf11⟩
      have px11 := px'.ext t11
      have hst : startsL n (k : Nat) cv = stOf ld n k := by rw [hcv]; rfl
      rw [hst] at hr11
      obtain ⟨ad, c, hsv⟩ := Row.slice hr11
      subst hsv
      have hlen : (stOf ld n k).length ≤ 16 := startsL_len _ _ _
      refine loop_rule cx_ok (fun (j : Nat) W => j ≤ (stOf ld n k).length ∧ ∃ a1 a2 a3, PX ((po b5 s1' s2 s3).flatMap Option.toList) w11 W b5 a1 a2 a3 (chunksK ld n (k + 1)) (blksOf ld n (startsK ld n k ++ (stOf ld n k).take j)) (badOf ld n (startsK ld n k ++ (stOf ld n k).take j)))
        (fun j : Nat => [(0, .pointer (some ⟨p, 0, none⟩)), (3, .pointer (some ⟨b3, 0, none⟩)), (4, .pointer (some ⟨b4, 0, none⟩)), (5, .pointer (some ⟨b5, 0, none⟩)), (6, .int .i64 (k : Nat)), (9, .slice ad (stOf ld n k).length c), (10, .int .i64 (j : Nat))]) (fun j => (stOf ld n k).length - j) 0 ⟨rfl, rfl, rfl, rfl, rfl, rfl, rfl, trivial⟩ ⟨by omega, s1', s2, s3, by rw [List.take_zero, List.append_nil]; exact px11.rebase⟩ ?_
      rintro j W ⟨hj, a1, a2, a3, pxj⟩
      have pxW := px11.unbase pxj
      have hW := hto W pxW.tr0
      have B3W := B3.ext pxW.tr0
      refine ⟨fun hlt => ?_, fun hge => ?_⟩
      · have hjl : j < (stOf ld n k).length := by omega
        obtain ⟨line, hline⟩ : ∃ line, line = (stOf ld n k)[j] := ⟨_, rfl⟩
        have hlg : (stOf ld n k)[j]? = some line := by rw [hline]; exact List.getElem?_eq_getElem hjl
        rcases Row.elem hr11 with ⟨_, h0⟩ | ⟨g, cap, hv, _, _, hcs⟩
        · omega
        obtain ⟨rfl, _, rfl⟩ := Value.slice.inj hv
        have hgp : g ∉ (po b5 s1' s2 s3).flatMap Option.toList := fun hm => by
          have h1 := px'.lt g hm
          have h2 := hf11 g rfl
          omega
        have hcell : W.cell? ⟨g, 0 + j * 1, none⟩ = some (.int .i64 line) := by
          rw [Nat.mul_one]
          exact pxj.tr0.cell (hcs j _ (i64s_get hlg)) hgp
        have htake : (stOf ld n k).take (j + 1) = (stOf ld n k).take j ++ [line] := take_snoc hlg
        have hli := stOf_i64 hn hk hlg
        have hl1 := blksOf_len ld n (startsK ld n k ++ (stOf ld n k).take j)
        have hl2 := badOf_len ld n (startsK ld n k ++ (stOf ld n k).take j)
        have hl3 := startsK_len ld n k
        have hl4 : (startsK ld n k ++ (stOf ld n k).take j).length ≤ 16 * k + 16 := by rw [List.length_append, List.length_take]; omega
        refine cut_rule (α := Nat) (fun b11 => [(0, .pointer (some ⟨p, 0, none⟩)), (3, .pointer (some ⟨b3, 0, none⟩)), (4, .pointer (some ⟨b4, 0, none⟩)), (5, .pointer (some ⟨b5, 0, none⟩)), (6, .int .i64 (k : Nat)), (9, .slice (some ⟨g, 0, none⟩) (stOf ld n k).length c), (10, .int .i64 (j : Nat)), (11, .pointer (some ⟨b11, 0, none⟩)), (12, .int .i64 (blockL ld n line).2)])
          (fun b11 W' => Tr [] W W' ∧ Blk W' b11 (bcells (blockL ld n line).1) 44) ?_ ?_
        · refine draw_rule cx_ok [] (Plan.takes [0, 1, 2, 3, 4, 5] (.alt true 6 (Plan.takes [7, 8, 9] (.one true 10 (.one true 11 (Plan.takes [12] .done)))) (.alt true 10 (.one true 6 (Plan.takes [7, 8, 9] (.one true 11 (Plan.takes [12] .done)))) .stop))) (by kernel_rfl) ?_
          intro w12 d
          have zd := d.tr.size
          refine ⟨_, fun w' t => B3W.all.tr t (by simp), rfl, j, rfl, hjl, _, fun w' t => t.cell hcell (by simp), ?_⟩
          refine ⟨?_, ?_, trivial⟩
          · refine call (Block11_calls (hW.ext d.tr) hn line hli) ?_
            rintro _ w13 ⟨rfl, t13⟩
            rw [← hldE]
            have q13 := d.tr.ext t13
            have z13 := q13.size
            refine ⟨q13, ?_⟩
            refine ⟨?_, trivial⟩
            intro b11 w14 n14
            have e14 := n14.num; have z14 := n14.size
            refine ⟨q13.ext n14.tr, ?_⟩
            refine ⟨⟨_, _, n14.blk, rfl, by show 0 + 4 ≤ 4; decide, rfl, fun w15 u15 => ?_⟩, trivial⟩
            have q15 := u15.ext (q13.ext n14.tr) (by omega)
            exact ⟨q15, rfl, b11, ⟨rfl, rfl, rfl, rfl, rfl, rfl, rfl, rfl, rfl, trivial⟩, q15, u15.blk⟩
          · intro b11 w14 n14
            have e14 := n14.num; have z14 := n14.size
            refine ⟨d.tr.ext n14.tr, ?_⟩
            refine ⟨?_, trivial⟩
            refine call (Block11_calls (hW.ext (d.tr.ext n14.tr)) hn line hli) ?_
            rintro _ w13 ⟨rfl, t13⟩
            rw [← hldE]
            have q13 := (d.tr.ext n14.tr).ext t13
            refine ⟨q13, ?_⟩
            refine ⟨⟨_, _, (show Blk w14 b11 _ _ from n14.blk).ext t13, rfl, by show 0 + 4 ≤ 4; decide, rfl, fun w15 u15 => ?_⟩, trivial⟩
            have q15 := u15.ext q13 (by omega)
            exact ⟨q15, rfl, b11, ⟨rfl, rfl, rfl, rfl, rfl, rfl, rfl, rfl, rfl, trivial⟩, q15, u15.blk⟩
        rintro b11 w14 ⟨tW, B11⟩
        have px14 := pxj.ext tW
        refine ⟨fun h0 => ?_, fun h0 => ?_⟩
        · obtain ⟨f1, f2⟩ := blksOf_ok (xs := startsK ld n k ++ (stOf ld n k).take j) h0
          refine ⟨_, px14.head.cell rfl, _, B11.all, rfl, _, rfl, fun b15 w15 n15 => ?_⟩
          refine (px14.ext n15.tr).app2 n15.blk (by omega) fun s2' w16 _ hone' hb16 hK' => ?_
          refine ⟨_, _, hb16, by show 1 < 3; decide, hone', fun w17 u17 => ?_⟩
          refine ⟨((j + 1 : Nat) : Int), by rw [w64 (by omega)]; omega, ?_⟩
          exact ⟨rfl, j + 1, ⟨rfl, rfl, rfl, rfl, rfl, rfl, rfl, trivial⟩, ⟨hjl, a1, s2', a3, by rw [htake, ← List.append_assoc, f1, f2]; exact hK' w17 u17⟩, by omega⟩
        · obtain ⟨f1, f2⟩ := blksOf_no (xs := startsK ld n k ++ (stOf ld n k).take j) h0
          obtain ⟨XX, hXX⟩ : ∃ XX : List Nat, XX = a3.ownBlock.toList := ⟨_, rfl⟩
          have hbX : b5 ∉ XX := fun hm => by
            rw [hXX] at hm
            have := fn_ne px14.nodup (l := po b5 a1 a2 a3) (i := 0) (j := 3) (b := b5) rfl (by rw [show (po b5 a1 a2 a3)[3]? = some a3.ownBlock from rfl, show a3.ownBlock = some b5 by simpa using hm])
            omega
          refine draw_rule cx_ok XX (Plan.takes [0, 1, 2, 3, 4, 5] (.one true 6 (.one true 7 (.one true 8 (.one false 9 .done))))) (by kernel_rfl) ?_
          intro w15 d
          have hgX : g ∉ XX := fun hm => by
            rw [hXX] at hm
            have hm : a3.ownBlock = some g := by simpa using hm
            rcases pxj.ge g (fn_mem.2 (by simp [po, hm])) with h1 | h1
            · exact hgp h1
            · have := Row.lt hr11 (b := g) rfl; omega
          refine ⟨_, fun w' t => t.cell (px14.head.cell rfl) hbX, j, rfl, hjl, _, fun w' t => t.cell (tW.cell hcell (by simp)) hgX, ?_⟩
          refine ⟨⟨_, rfl, fun b15 w16 n15 => ⟨(d.tr.ext n15.tr).of_ext, ?_, trivial⟩⟩, trivial⟩
          have q16 := d.tr.ext n15.tr
          refine (px14.ext q16).app3 n15.blk (by omega) fun s3' w17 t17 hone' hb17 hK' => ?_
          have hS : Tr XX w14 w17 := by rw [hXX]; exact q16.of_ext.trans t17 (fun _ h => h) (fun _ h _ => h)
          refine ⟨hS, ⟨hS, ⟨⟨_, _, hb17, by show 2 < 3; decide, hone', fun w18 u18 => ?_⟩, trivial⟩⟩, trivial⟩
          refine ⟨((j + 1 : Nat) : Int), by rw [w64 (by omega)]; omega, ?_⟩
          exact ⟨rfl, j + 1, ⟨rfl, rfl, rfl, rfl, rfl, rfl, rfl, trivial⟩, ⟨hjl, a1, a2, s3', by rw [htake, ← List.append_assoc, f1, f2]; exact hK' w18 u18⟩, by omega⟩
      · have hjl : j = (stOf ld n k).length := by omega
        subst hjl
        rw [List.take_length, ← startsK_succ] at pxW
        refine ⟨((k + 1 : Nat) : Int), by rw [w64 (by omega)]; omega, ?_⟩
        exact ⟨rfl, k + 1, ⟨rfl, rfl, rfl, rfl, rfl, trivial⟩, ⟨by omega, a1, a2, a3, pxW⟩, by omega⟩
  · have hkn : k = chunksN n := by omega
    subst hkn
    have B4W := B4.ext pxk.tr0
    have hb45 : b4 < b5 := by omega
    refine ⟨_, pxk.head.all, rfl, _, _, B4W, rfl, by show 0 + 3 ≤ 3; decide, by obtain ⟨_, _, x1⟩ := Row.slice pxk.r1; obtain ⟨_, _, x2⟩ := Row.slice pxk.r2; obtain ⟨_, _, x3⟩ := Row.slice pxk.r3; rw [x1, x2, x3]; rfl, fun w7 u7 => ?_⟩
    have hz := pxk.tr0.size; have zu := u7.size
    refine ⟨_, u7.blk.all, rfl, u7.ext (t2.ext pxk.tr0) (by omega), s1, s2, s3, rfl, ?_, ?_, ?_⟩
    · exact ((Row.slid pxk.r1).tr u7.tr fun c hc hm => by simp at hc; have := pxk.ge c (fn_mem.2 (by simp [po, hm])); have := Row.lt pxk.r1 hm; simp at *; omega).mono fun c hc => by have := pxk.ge c (fn_mem.2 (by simp [po, hc])); have := Row.lt pxk.r1 hc; simp at *; omega
    · exact ((Row.slid pxk.r2).tr u7.tr fun c hc hm => by simp at hc; have := pxk.ge c (fn_mem.2 (by simp [po, hm])); have := Row.lt pxk.r2 hm; simp at *; omega).mono fun c hc => by have := pxk.ge c (fn_mem.2 (by simp [po, hc])); have := Row.lt pxk.r2 hc; simp at *; omega
    · exact ((Row.slid pxk.r3).tr u7.tr fun c hc hm => by simp at hc; have := pxk.ge c (fn_mem.2 (by simp [po, hm])); have := Row.lt pxk.r3 hm; simp at *; omega).mono fun c hc => by have := pxk.ge c (fn_mem.2 (by simp [po, hc])); have := Row.lt pxk.r3 hc; simp at *; omega

end

end Go.Proofs.YthepaakejpbppaaGreatDoor

/- class: Pack, can. -/
namespace Go.Proofs.YthepaakejpbppaaGreatDoor
open Go.E

theorem or_add {a x n : Nat} (h : a < 2 ^ n) : a ||| (x * 2 ^ n) = a + x * 2 ^ n := by
  have := Nat.two_pow_add_eq_or_of_lt h x
  rw [Nat.or_comm, Nat.mul_comm x, ← this, Nat.add_comm]

def hAt (k : Nat) : Nat := [0, 4, 7, 27].getD k 0
def hBits (k : Nat) : Nat := [4, 3, 20].getD k 0
def hNum (q k : Nat) : Nat := q / 2 ^ hAt k % 2 ^ hBits k
def hOut (q k : Nat) : Nat := q % 2 ^ hAt k

theorem hOut_step {q k : Nat} (hk : k < 3) : hOut q k ||| (hNum q k * 2 ^ hAt k) = hOut q (k + 1) := by
  have ho : hOut q k < 2 ^ hAt k := Nat.mod_lt _ (Nat.two_pow_pos _)
  rw [or_add ho]
  unfold hOut hNum hAt hBits
  rcases k with _ | _ | _ | k
  · simp; omega
  · simp; omega
  · simp; omega
  · omega
theorem hNum_lt (q k : Nat) : hNum q k < 2 ^ hBits k := Nat.mod_lt _ (Nat.two_pow_pos _)
theorem hBits_le {k : Nat} (hk : k < 3) : hBits k ≤ 20 ∧ hAt k ≤ 7 := by
  rcases k with _ | _ | _ | k
  · decide
  · decide
  · decide
  · omega

section
variable {w : World}

theorem hdr_cell (hg : Gl w) {k : Nat} (hk : k < 3) : w.cell? ⟨1, 0 + k * 2 + 0, none⟩ = some (.int .i64 (hAt k : Nat)) ∧ w.cell? ⟨1, 0 + k * 2 + 1, none⟩ = some (.int .i64 (hBits k : Nat)) := by
  rcases k with _ | _ | _ | k
  · exact ⟨hg.hdr 0 _ rfl, hg.hdr 1 _ rfl⟩
  · exact ⟨hg.hdr 2 _ rfl, hg.hdr 3 _ rfl⟩
  · exact ⟨hg.hdr 4 _ rfl, hg.hdr 5 _ rfl⟩
  · omega

theorem Pack_calls (hg : Gl w) (q : Nat) (hq : q < 134217728) (hc : q / 16 % 8 ≤ 4) :
    Calls cx.P 119 #[.int .i64 (hNum q 0 : Nat), .int .i64 (hNum q 1 : Nat), .int .i64 (hNum q 2 : Nat)] w (Ret fun v w' => v = .int .i64 (q : Nat) ∧ w = w') := by
  refine calls_body cx_ok (args := [.int .i64 (hNum q 0 : Nat), .int .i64 (hNum q 1 : Nat), .int .i64 (hNum q 2 : Nat)]) Tryz.func119 rfl 41 rfl rfl [.tmp 6] rfl ?_
  refine ⟨_, rfl, ?_⟩
  refine loop_rule cx_ok (fun (k : Nat) W => k ≤ 3 ∧ w = W) (fun k : Nat => [(1, .int .i64 (hNum q 1 : Nat)), (7, .int .i64 (hOut q k : Nat)), (13, .agg #[.int .i64 (hNum q 0 : Nat), .int .i64 (hNum q 1 : Nat), .int .i64 (hNum q 2 : Nat)]), (14, .int .i64 (k : Nat))]) (fun k => 3 - k) 0
    ⟨rfl, by show _ = some (Value.int .i64 ((q % 2 ^ 0 : Nat) : Int)); rw [Nat.pow_zero, Nat.mod_one]; rfl, rfl, rfl, trivial⟩ ⟨by omega, rfl⟩ ?_
  rintro k _ ⟨hk, rfl⟩
  refine ⟨fun hlt => ?_, fun hge => ?_⟩
  · have hk3 : k < 3 := by omega
    obtain ⟨c0, c1⟩ := hdr_cell hg hk3
    obtain ⟨b1, b2⟩ := hBits_le hk3
    have hn := hNum_lt q k
    have h20 : 2 ^ hBits k ≤ 2 ^ 20 := Nat.pow_le_pow_right (by decide) b1
    have h7 : 2 ^ hAt k ≤ 2 ^ 7 := Nat.pow_le_pow_right (by decide) b2
    have hm : hNum q k * 2 ^ hAt k ≤ 2 ^ 20 * 2 ^ 7 := Nat.mul_le_mul (by omega) h7
    have ho : hOut q k < 2 ^ hAt k := Nat.mod_lt _ (Nat.two_pow_pos _)
    have hget : (#[Value.int .i64 (hNum q 0 : Nat), .int .i64 (hNum q 1 : Nat), .int .i64 (hNum q 2 : Nat)].toList)[k]? = some (.int .i64 (hNum q k : Nat)) := by
      rcases k with _ | _ | _ | k
      · rfl
      · rfl
      · rfl
      · omega
    refine ⟨k, rfl, hk3, .int .i64 (hNum q k : Nat), (by rw [Nat.mul_one]; exact hget), fun h0 => absurd h0 (by omega), fun _ => ?_⟩
    refine ⟨k, rfl, hk3, _, c1, _, by omega, shl_nat 1 (hBits k) (by omega) (by omega), fun hge => absurd hge (by omega), fun _ => ?_⟩
    refine ⟨k, rfl, hk3, _, c0, _, by omega, shl_nat (hNum q k) (hAt k) (by omega) (by omega), _, bits_or _ _ (by omega) (by omega), ?_⟩
    rw [hOut_step hk3]
    refine ⟨((k + 1 : Nat) : Int), by rw [w64 (by omega)]; omega, ?_⟩
    exact ⟨rfl, k + 1, ⟨rfl, rfl, rfl, rfl, trivial⟩, ⟨by omega, rfl⟩, by omega⟩
  · obtain rfl : k = 3 := by omega
    have e3 : hOut q 3 = q := by unfold hOut hAt; simp; omega
    have e1 : hNum q 1 = q / 16 % 8 := by unfold hNum hAt hBits; simp
    rw [e3, e1]
    exact ⟨fun h => absurd h (by omega), fun _ => ⟨rfl, rfl⟩⟩

theorem parts_eq {h : Int} (hf : formedP h = true) : ∃ q : Nat, h = q ∧ q < 134217728 ∧ q / 16 % 8 ≤ 4 ∧ kindP h = (hNum q 0 : Nat) ∧ classP h = (hNum q 1 : Nat) ∧ genP h = (hNum q 2 : Nat) := by
  have hb := of_decide_eq_true hf
  obtain ⟨q, rfl⟩ := Int.eq_ofNat_of_zero_le hb.1
  refine ⟨q, rfl, by omega, by omega, ?_, ?_, ?_⟩
  · unfold kindP; rw [if_pos hf]; unfold hNum hAt hBits; simp
  · unfold classP; rw [if_pos hf]; unfold hNum hAt hBits; simp
  · unfold genP; rw [if_pos hf]; unfold hNum hAt hBits; simp; omega

theorem can_calls (hg : Gl w) (line c h : Int) (hp : properP h c = true) :
    Calls cx.P 78 #[.agg (bcells (line, c, kindP h, genP h)).toArray] w (Ret fun v w' => v = .bool true ∧ Tr [] w w') := by
  refine calls_body cx_ok (args := [.agg (bcells (line, c, kindP h, genP h)).toArray]) Tryz.func78 rfl 27 rfl rfl [.tmp 2] rfl ?_
  intro b1 w1 n1
  have B : Blk w1 b1 (bcells (line, c, kindP h, genP h)) 44 := n1.blk
  by_cases h0 : h = 0
  · subst h0
    exact ⟨_, B.cell rfl, fun _ => ⟨_, B.cell rfl, fun _ => ⟨rfl, n1.tr⟩, fun hn => absurd (show genP 0 = 0 by decide) hn⟩, fun hn => absurd (show kindP 0 = 0 by decide) hn⟩
  · have hp' : formedP h = true ∧ classP h = c ∧ (kindP h = 0 ∨ kindP h ≤ 6 ∧ 0 < genP h) := by
      unfold properP at hp
      simp only [h0, decide_false, Bool.false_or, Bool.and_eq_true, Bool.or_eq_true, decide_eq_true_eq] at hp
      exact ⟨hp.1.1, hp.1.2, hp.2⟩
    obtain ⟨p1, p2, p3⟩ := hp'
    obtain ⟨q, hq, hq1, hq2, e1, e2, e3⟩ := parts_eq p1
    have rest : ∀ W, Tr [] w1 W → Calls cx.P 119 #[.int .i64 (kindP h), .int .i64 c, .int .i64 (genP h)] W (Ret fun v w' => v = .int .i64 h ∧ W = w') := fun W t => by
      rw [← p2, e1, e2, e3, hq]
      exact Pack_calls (hg.ext (n1.tr.ext t)) q hq1 hq2
    have fin : CallP cx.P 119 #[.int .i64 (kindP h), .int .i64 c, .int .i64 (genP h)] w1 fun v w' => v = .int .i64 h ∧ w1 = w' := call (rest w1 (Tr.refl _ _)) fun _ _ hh => hh
    refine ⟨_, B.cell rfl, fun hk => ?_, fun hk => ?_⟩
    · refine ⟨_, B.cell rfl, fun _ => ⟨rfl, n1.tr⟩, fun hgen => ?_⟩
      refine ⟨_, B.cell rfl, _, B.cell rfl, _, B.cell rfl, ?_⟩
      refine call (rest w1 (Tr.refl _ _)) ?_
      rintro _ _ ⟨rfl, rfl⟩
      refine ⟨fun hh => absurd hh h0, fun _ => ?_⟩
      refine ⟨_, B.cell rfl, ?_⟩
      refine call (proper_calls (hg.ext n1.tr) h c) ?_
      rintro _ w2 ⟨rfl, t2⟩
      rw [hp]
      exact ⟨rfl, n1.tr.ext t2⟩
    · refine ⟨_, B.cell rfl, _, B.cell rfl, _, B.cell rfl, ?_⟩
      refine call (rest w1 (Tr.refl _ _)) ?_
      rintro _ _ ⟨rfl, rfl⟩
      refine ⟨fun hh => absurd hh h0, fun _ => ?_⟩
      refine ⟨_, B.cell rfl, ?_⟩
      refine call (proper_calls (hg.ext n1.tr) h c) ?_
      rintro _ w2 ⟨rfl, t2⟩
      rw [hp]
      exact ⟨rfl, n1.tr.ext t2⟩

end

end Go.Proofs.YthepaakejpbppaaGreatDoor

/- class: Check of what Scan returns. -/
namespace Go.Proofs.YthepaakejpbppaaGreatDoor
open Go.E

theorem stOf_get {ld : Int → Int × Int} {n : Nat} {k j : Nat} {line : Int} (h : (stOf ld n k)[j]? = some line) : 16 + 16 * (k : Int) ≤ line ∧ line < 16 + 16 * (k : Int) + 16 := by
  unfold stOf startsL at h
  split at h
  · simp at h
  · rename_i hh
    obtain ⟨f1, f2, f3, f4⟩ := pow_facts (chunkVal ld n k).toNat (by omega)
    generalize 2 ^ (chunkVal ld n k).toNat = q at *
    generalize 16 / q = m at *
    rw [List.getElem?_map] at h
    obtain ⟨i, hi, rfl⟩ := Option.map_eq_some_iff.1 h
    obtain ⟨h1, h2⟩ := List.getElem?_eq_some_iff.1 hi
    simp at h1 h2
    subst h2
    have hs : (j + 1) * q = j * q + q := Nat.succ_mul j q
    have hle : (j + 1) * q ≤ m * q := Nat.mul_le_mul_right q (by omega)
    constructor <;> omega

theorem stOf_pw {ld : Int → Int × Int} {n k : Nat} : (stOf ld n k).Pairwise (· < ·) := by
  unfold stOf startsL
  split
  · exact .nil
  · rw [List.pairwise_map]
    refine List.Pairwise.imp ?_ List.pairwise_lt_range
    intro a b hab
    have hq := Nat.two_pow_pos (chunkVal ld n k).toNat
    have : a * 2 ^ (chunkVal ld n k).toNat < b * 2 ^ (chunkVal ld n k).toNat := Nat.mul_lt_mul_of_pos_right hab hq
    omega

theorem startsK_pw {ld : Int → Int × Int} {n : Nat} : ∀ k, (startsK ld n k).Pairwise (· < ·) ∧ ∀ x ∈ startsK ld n k, x < 16 + 16 * (k : Int)
  | 0 => by simp [startsK]
  | k + 1 => by
    obtain ⟨h1, h2⟩ := startsK_pw (ld := ld) (n := n) k
    have h3 : ∀ x ∈ stOf ld n k, 16 + 16 * (k : Int) ≤ x ∧ x < 16 + 16 * (k : Int) + 16 := fun x hx => by
      obtain ⟨j, hj⟩ := List.mem_iff_getElem?.1 hx
      exact stOf_get hj
    rw [startsK_succ]
    refine ⟨List.pairwise_append.2 ⟨h1, stOf_pw, fun a ha b hb => by have := h2 a ha; have := h3 b hb; omega⟩, fun x hx => ?_⟩
    rcases List.mem_append.1 hx with hx | hx
    · have := h2 x hx; omega
    · have := h3 x hx; omega

theorem startsK_prefix (ld : Int → Int × Int) (n : Nat) {k m : Nat} (h : k ≤ m) : ∃ R, startsK ld n m = startsK ld n k ++ R := by
  induction h with
  | refl => exact ⟨[], by simp⟩
  | step h ih =>
    obtain ⟨R, hR⟩ := ih
    exact ⟨R ++ stOf ld n _, by rw [startsK_succ, hR, List.append_assoc]⟩

theorem startsK_at (ld : Int → Int × Int) (n : Nat) {k m j : Nat} {line : Int} (h : k < m) (hj : (stOf ld n k)[j]? = some line) : (startsK ld n m)[(startsK ld n k).length + j]? = some line := by
  obtain ⟨R, hR⟩ := startsK_prefix ld n (show k + 1 ≤ m from h)
  have hl := (List.getElem?_eq_some_iff.1 hj).1
  rw [hR, startsK_succ, List.append_assoc, List.getElem?_append_right (by omega), Nat.add_sub_cancel_left, List.getElem?_append_left hl]
  exact hj

/-- A slice from its second element on. -/
theorem Sli.tail {w : World} {a : Option Addr} {n c size : Nat} {xs : List Value} (h : Sli w (.slice a (n + 1) c) (n + 1) xs) (hl : xs.length = (n + 1) * size) : ∃ g o, a = some ⟨g, o, none⟩ ∧ 1 ≤ c ∧ n + 1 ≤ c ∧ Sli w (.slice (some (sadr g o 1 size c)) (n + 1 - 1) (c - 1)) n (xs.drop size) := by
  obtain ⟨a', c', hv, hnc, h⟩ := h
  obtain ⟨rfl, _, rfl⟩ := Value.slice.inj hv
  rcases h with ⟨_, h0⟩ | ⟨g, o, rfl, hc⟩
  · omega
  refine ⟨g, o, rfl, by omega, hnc, _, _, rfl, by omega, ?_⟩
  unfold sadr
  by_cases hc1 : c = 1
  · rw [if_pos hc1]
    have : n = 0 := by omega
    subst this
    rw [List.drop_of_length_le (by omega)]
    exact .inr ⟨g, o, rfl, fun j v hv => by simp at hv⟩
  · rw [if_neg hc1]
    refine .inr ⟨g, o + 1 * size, rfl, fun j v hv => ?_⟩
    rw [List.getElem?_drop] at hv
    have := hc _ _ hv
    rw [show o + 1 * size + j = o + (size + j) by omega]
    exact this


theorem blockL_ok {ld : Int → Int × Int} {n : Nat} {line : Int} (h : (blockL ld n line).2 = 0) : ∃ h, (blockL ld n line).1 = (line, chunkVal ld n (chunkP n line), kindP h, genP h) ∧ properP h (chunkVal ld n (chunkP n line)) = true := by
  unfold chunkVal
  unfold blockL at h ⊢
  generalize assignedL ld n (chunkP n line) = a at *
  by_cases h1 : a.2 ≠ 0
  · rw [if_pos h1] at h; exact absurd h h1
  · rw [if_neg h1] at h ⊢
    rw [if_neg h1]
    by_cases h2 : a.1 = -1 ∨ (line - 16) % linesP a.1 ≠ 0
    · rw [if_pos h2] at h; exact absurd h (by decide)
    · rw [if_neg h2] at h ⊢
      by_cases h3 : (ld (8 * line)).2 ≠ 0
      · rw [if_pos h3] at h; exact absurd h h3
      · rw [if_neg h3] at h ⊢
        by_cases h4 : properP (ld (8 * line)).1 a.1 = false
        · rw [if_pos h4] at h; exact absurd h (by decide)
        · rw [if_neg h4]
          exact ⟨_, rfl, by simpa using h4⟩

theorem chunkP_at {n k : Nat} {line : Int} (hk : k < chunksN n) (h : 16 + 16 * (k : Int) ≤ line ∧ line < 16 + 16 * (k : Int) + 16) : chunkP n line = k := by
  unfold chunkP
  rw [if_neg (by omega)]
  omega

theorem chunkVal_range {ld : Int → Int × Int} (hd : LdOk ld) {n : Nat} (hn : InL n) (k : Int) : -2 ≤ chunkVal ld n k ∧ chunkVal ld n k ≤ 4 := by
  unfold chunkVal
  by_cases h : (assignedL ld n k).2 ≠ 0
  · rw [if_pos h]; decide
  · rw [if_neg h]
    have := assignedL_range hd hn k (by omega)
    omega

theorem Sli.head {w : World} {a : Option Addr} {n c : Nat} {xs : List Value} (h : Sli w (.slice a n c) n xs) (h0 : 0 < n) : ∃ g o, a = some ⟨g, o, none⟩ ∧ n ≤ c ∧ Cells w g o xs := by
  obtain ⟨a', c', hv, hnc, h⟩ := h
  obtain ⟨rfl, _, rfl⟩ := Value.slice.inj hv
  rcases h with ⟨_, hz⟩ | ⟨g, o, rfl, hc⟩
  · omega
  · exact ⟨g, o, rfl, hnc, hc⟩

section
variable {w : World} {n : Nat} {ld : Int → Int × Int}

set_option maxHeartbeats 4000000 in
theorem CheckPic_calls (hg : Gl w) (hd : LdOk ld) (hn : InL n) {s1 s2 s3 : Value} (h1 : Sli w s1 (scanC ld n).length (i64s (scanC ld n))) (h2 : Sli w s2 (scanB ld n).length (bcs (scanB ld n))) (h3 : Sli w s3 (scanX ld n).length (i64s (scanX ld n))) :
    Calls cx.P 25 #[.agg (lcs n).toArray, .agg #[s1, s2, s3]] w (Ret fun v w' => v = .int .i64 0 ∧ Tr [] w w') := by
  have hch := hn.chunks
  obtain ⟨a1, c1, hs1⟩ := h1.slice
  obtain ⟨a2, c2, hs2⟩ := h2.slice
  obtain ⟨a3, c3, hs3⟩ := h3.slice
  subst hs1; subst hs2; subst hs3
  have hl1 : (scanC ld n).length = chunksN n := by simp [scanC, chunksK]
  refine calls_body cx_ok (args := [.agg (lcs n).toArray, .agg #[.slice a1 (scanC ld n).length c1, .slice a2 (scanB ld n).length c2, .slice a3 (scanX ld n).length c3]]) Tryz.func25 rfl 93 rfl rfl [.tmp 4] rfl ?_
  intro b2 w1 n1 b3 w2 n2
  have e1 := n1.num; have e2 := n2.num; have z1 := n1.size; have z2 := n2.size
  have B2 : Blk w2 b2 (lcs n) 28 := (show Blk w1 b2 _ _ from n1.blk).ext n2.tr
  have B3 : Blk w2 b3 [.slice a1 (scanC ld n).length c1, .slice a2 (scanB ld n).length c2, .slice a3 (scanX ld n).length c3] 59 := n2.blk
  have t2 := n1.tr.ext n2.tr
  refine ⟨_, B3.cell rfl, _, B2.cell rfl, fun _ => ?_, fun hne => absurd (by rw [hl1]) hne⟩
  refine draw_rule cx_ok [] (Plan.takes [0, 1, 2, 3, 4, 5] .done) (by kernel_rfl) ?_
  intro w3 d
  refine ⟨_, fun w' t => t.cell (B3.cell rfl) (by simp), _, fun w' t => t.cell (B3.cell rfl) (by simp), ?_⟩
  refine ⟨_, (B3.ext d.tr).cell rfl, ?_⟩
  have hT : scanB ld n = blksOf ld n ((startsK ld n (chunksN n)).drop (startsK ld n 0).length) := by simp [scanB, startsK]
  have hT' : scanX ld n = badOf ld n ((startsK ld n (chunksN n)).drop (startsK ld n 0).length) := by simp [scanX, startsK]
  obtain ⟨hpw, hpl⟩ := startsK_pw (ld := ld) (n := n) (chunksN n)
  obtain ⟨T, hTd⟩ : ∃ T, T = startsK ld n (chunksN n) := ⟨_, rfl⟩
  rw [← hTd] at hpw hpl
  have hi0 : (startsK ld n 0).length = 0 := by simp [startsK]
  refine loop_rule cx_ok (fun (x : Nat × Value × Value) W => x.1 ≤ chunksN n ∧ Tr [] w2 W ∧ Sli W x.2.1 (blksOf ld n (T.drop (startsK ld n x.1).length)).length (bcs (blksOf ld n (T.drop (startsK ld n x.1).length))) ∧ Sli W x.2.2 (badOf ld n (T.drop (startsK ld n x.1).length)).length (i64s (badOf ld n (T.drop (startsK ld n x.1).length))))
    (fun x : Nat × Value × Value => [(2, .pointer (some ⟨b2, 0, none⟩)), (5, x.2.1), (6, x.2.2), (22, .slice a1 (scanC ld n).length c1), (23, .int .i64 ((scanC ld n).length : Nat)), (24, .int .i64 (x.1 : Nat))]) (fun x => chunksN n - x.1) (0, .slice a2 (scanB ld n).length c2, .slice a3 (scanX ld n).length c3) ⟨rfl, rfl, rfl, rfl, rfl, rfl, trivial⟩
    ⟨by omega, d.tr, by dsimp only; rw [hTd, ← hT]; exact h2.ext (t2.ext d.tr), by dsimp only; rw [hTd, ← hT']; exact h3.ext (t2.ext d.tr)⟩ ?_
  rintro ⟨k, v2, v3⟩ W0 ⟨hk, tW0, hv2, hv3⟩
  dsimp only at hk hv2 hv3
  refine ⟨fun hlt => ?_, fun hge => ?_⟩
  · have hlt' : ((k : Nat) : Int) < ((scanC ld n).length : Nat) := hlt
    have hkc : k < chunksN n := by omega
    obtain ⟨g1, o1, hg1, _, hc1⟩ := (h1.ext (t2.ext tW0)).head (by omega)
    subst hg1
    have hck : (scanC ld n)[k]? = some (chunkVal ld n k) := by
      unfold scanC chunksK
      rw [List.getElem?_map, List.getElem?_range hkc]; rfl
    refine ⟨k, rfl, by show k < (scanC ld n).length; omega, _, by rw [Nat.mul_one]; exact hc1 k _ (i64s_get hck), ?_⟩
    obtain ⟨cv, hcv⟩ : ∃ cv, cv = chunkVal ld n k := ⟨_, rfl⟩
    rw [← hcv]
    have hcr := chunkVal_range hd hn k
    rw [← hcv] at hcr
    refine ⟨fun h => absurd h (by omega), fun _ => ⟨fun h => absurd h (by omega), fun _ => ?_⟩⟩
    refine ⟨_, (B2.ext tW0).all, rfl, ?_⟩
    refine call (Starts_calls W0 hn k cv (by unfold inI64; omega)) ?_
    rintro sv w11 ⟨t11, hr11, hf11⟩
    have hst : startsL n (k : Nat) cv = stOf ld n k := by rw [hcv]; rfl
    rw [hst] at hr11
    obtain ⟨ad, c, hsv⟩ := Row.slice hr11
    subst hsv
    have hlen : (stOf ld n k).length ≤ 16 := startsL_len _ _ _
    have t2_11 := tW0.ext t11
    refine loop_rule cx_ok (fun (x : Nat × Value × Value) W => x.1 ≤ (stOf ld n k).length ∧ Tr [] w11 W ∧ Sli W x.2.1 (blksOf ld n (T.drop ((startsK ld n k).length + x.1))).length (bcs (blksOf ld n (T.drop ((startsK ld n k).length + x.1)))) ∧ Sli W x.2.2 (badOf ld n (T.drop ((startsK ld n k).length + x.1))).length (i64s (badOf ld n (T.drop ((startsK ld n k).length + x.1)))))
      (fun x : Nat × Value × Value => [(2, .pointer (some ⟨b2, 0, none⟩)), (5, x.2.1), (6, x.2.2), (8, .int .i64 cv), (22, .slice (some ⟨g1, o1, none⟩) (scanC ld n).length c1), (23, .int .i64 ((scanC ld n).length : Nat)), (24, .int .i64 (k : Nat)), (38, .slice ad (stOf ld n k).length c), (39, .int .i64 ((stOf ld n k).length : Nat)), (40, .int .i64 (x.1 : Nat))]) (fun x => (stOf ld n k).length - x.1) (0, v2, v3)
      ⟨rfl, rfl, rfl, rfl, rfl, rfl, rfl, rfl, rfl, rfl, trivial⟩ ⟨by omega, Tr.refl _ _, hv2.ext t11, hv3.ext t11⟩ ?_
    rintro ⟨j, v2, v3⟩ W ⟨hj, tW, hv2, hv3⟩
    dsimp only at hj hv2 hv3
    have tW' := t2_11.ext tW
    refine ⟨fun hlt => ?_, fun hge => ?_⟩
    · have hlt' : ((j : Nat) : Int) < ((stOf ld n k).length : Nat) := hlt
      have hjl : j < (stOf ld n k).length := by omega
      obtain ⟨line, hline⟩ : ∃ line, line = (stOf ld n k)[j] := ⟨_, rfl⟩
      have hlg : (stOf ld n k)[j]? = some line := by rw [hline]; exact List.getElem?_eq_getElem hjl
      have hTi := startsK_at ld n hkc hlg
      rw [← hTd] at hTi
      have hil := (List.getElem?_eq_some_iff.1 hTi).1
      have hdrop : T.drop ((startsK ld n k).length + j) = line :: T.drop ((startsK ld n k).length + (j + 1)) := by
        rw [List.drop_eq_getElem_cons hil, (List.getElem?_eq_some_iff.1 hTi).2]; rfl
      have hgt : ∀ x ∈ T.drop ((startsK ld n k).length + (j + 1)), line < x := by
        have := hpw.sublist (List.drop_sublist ((startsK ld n k).length + j) T)
        rw [hdrop] at this
        exact (List.pairwise_cons.1 this).1
      obtain ⟨R', hR'⟩ : ∃ R', R' = T.drop ((startsK ld n k).length + (j + 1)) := ⟨_, rfl⟩
      have hdn : T.drop ((startsK ld n k).length + (j + 1)) = R' := hR'.symm
      rw [hdn] at hdrop hgt
      rw [hdrop] at hv2 hv3
      rcases Row.elem hr11 with ⟨_, h0⟩ | ⟨g, cap, hv, _, _, hcs⟩
      · omega
      obtain ⟨rfl, _, rfl⟩ := Value.slice.inj hv
      have hcell : W.cell? ⟨g, 0 + j * 1, none⟩ = some (.int .i64 line) := by
        rw [Nat.mul_one]
        exact tW.cell (hcs j _ (i64s_get hlg)) (by simp)
      refine ⟨j, rfl, hjl, _, hcell, ?_⟩
      obtain ⟨ab, cb, hb⟩ := hv3.slice
      obtain ⟨ak, ck, hkk⟩ := hv2.slice
      by_cases hok : (blockL ld n line).2 = 0
      · have hokB : okB ld n line = true := decide_eq_true hok
        have f1 : blksOf ld n (line :: R') = (blockL ld n line).1 :: blksOf ld n R' := by unfold blksOf; rw [List.filter_cons_of_pos (by exact hokB)]; rfl
        have f2 : badOf ld n (line :: R') = badOf ld n R' := by unfold badOf; rw [List.filter_cons_of_neg (by rw [hokB]; decide)]
        rw [f1] at hv2 hkk
        rw [f2] at hv3 hb
        subst hb; subst hkk
        rw [List.length_cons] at hv2
        obtain ⟨hh, hbe, hpp⟩ := blockL_ok hok
        have hlr := stOf_get hlg
        rw [chunkP_at hkc hlr, ← hcv] at hbe hpp
        have hline1 : (blockL ld n line).1.1 = line := by rw [hbe]
        have hline2 : (blockL ld n line).1.2.1 = cv := by rw [hbe]
        have hcan : ∀ W', Tr [] w2 W' → Calls cx.P 78 #[.agg (bcells (blockL ld n line).1).toArray] W' (Ret fun v w' => v = .bool true ∧ Tr [] W' w') := fun W' t => by
          rw [hbe]
          exact can_calls (hg.ext (t2.ext t)) line cv hh hpp
        have hbl : (bcs ((blockL ld n line).1 :: blksOf ld n R')).length = ((blksOf ld n R').length + 1) * 4 := by rw [bcs_len]; rfl
        obtain ⟨gg, go, hga, _, hncap2, htl⟩ := hv2.tail (size := 4) hbl
        subst hga
        have hdr : (bcs ((blockL ld n line).1 :: blksOf ld n R')).drop 4 = bcs (blksOf ld n R') := rfl
        rw [hdr] at htl
        obtain ⟨g', o', hga', _, hc2⟩ := hv2.head (by omega)
        cases hga'
        have hb0 : ∀ m v, (bcells (blockL ld n line).1)[m]? = some v → W.cell? ⟨gg, go + 0 * 4 + m, none⟩ = some v := fun m v hv => by
          have := bcs_at hc2 (k := 0) rfl m v hv
          exact this
        refine ⟨fun hpos => ?_, fun hz => ?_⟩
        · have hpos' : (0 : Int) < ((badOf ld n R').length : Nat) := hpos
          obtain ⟨y, hy⟩ : ∃ y, (badOf ld n R')[0]? = some y := ⟨_, List.getElem?_eq_getElem (by omega)⟩
          have hly := hgt y (List.mem_filter.1 (List.mem_of_getElem? hy)).1
          obtain ⟨g3, o3, hg3, _, hc3⟩ := hv3.head (by omega)
          subst hg3
          refine ⟨0, rfl, by show 0 < (badOf ld n R').length; omega, _, hc3 0 _ (i64s_get hy), fun heq => absurd (show y = line from heq) (by omega), fun _ => ?_⟩
          refine ⟨fun hpos2 => ?_, fun hz2 => absurd (show (0 : Int) < (((blksOf ld n R').length + 1 : Nat) : Int) by omega) hz2⟩
          refine ⟨0, rfl, by omega, _, hb0 0 _ rfl, fun _ => ?_, fun hne => absurd hline1 hne⟩
          refine ⟨0, rfl, by omega, _, hb0 1 _ rfl, fun _ => ?_, fun hne => absurd hline2 hne⟩
          refine ⟨0, rfl, by omega, bcells (blockL ld n line).1, fun m v hv => by rw [show go + 0 * 4 + m = go + 0 * 4 + m from rfl]; exact hb0 m v hv, rfl, ?_⟩
          refine call (hcan W tW') ?_
          rintro _ W3 ⟨rfl, t3⟩
          refine ⟨1, (blksOf ld n R').length + 1, rfl, rfl, by omega, hncap2, ?_⟩
          refine ⟨((j + 1 : Nat) : Int), by rw [w64 (by omega)]; omega, ?_⟩
          exact ⟨rfl, (j + 1, _, _), ⟨rfl, rfl, rfl, rfl, rfl, rfl, rfl, rfl, rfl, rfl, trivial⟩, ⟨hjl, tW.ext t3, by dsimp only; rw [hdn]; exact htl.ext t3, by dsimp only; rw [hdn]; exact hv3.ext t3⟩, by dsimp only; omega⟩
        ·
          refine ⟨fun hpos2 => ?_, fun hz2 => absurd (show (0 : Int) < (((blksOf ld n R').length + 1 : Nat) : Int) by omega) hz2⟩
          refine ⟨0, rfl, by omega, _, hb0 0 _ rfl, fun _ => ?_, fun hne => absurd hline1 hne⟩
          refine ⟨0, rfl, by omega, _, hb0 1 _ rfl, fun _ => ?_, fun hne => absurd hline2 hne⟩
          refine ⟨0, rfl, by omega, bcells (blockL ld n line).1, fun m v hv => by rw [show go + 0 * 4 + m = go + 0 * 4 + m from rfl]; exact hb0 m v hv, rfl, ?_⟩
          refine call (hcan W tW') ?_
          rintro _ W3 ⟨rfl, t3⟩
          refine ⟨1, (blksOf ld n R').length + 1, rfl, rfl, by omega, hncap2, ?_⟩
          refine ⟨((j + 1 : Nat) : Int), by rw [w64 (by omega)]; omega, ?_⟩
          exact ⟨rfl, (j + 1, _, _), ⟨rfl, rfl, rfl, rfl, rfl, rfl, rfl, rfl, rfl, rfl, trivial⟩, ⟨hjl, tW.ext t3, by dsimp only; rw [hdn]; exact htl.ext t3, by dsimp only; rw [hdn]; exact hv3.ext t3⟩, by dsimp only; omega⟩
      · have hokB : okB ld n line = false := decide_eq_false hok
        have f1 : blksOf ld n (line :: R') = blksOf ld n R' := by unfold blksOf; rw [List.filter_cons_of_neg (by rw [hokB]; decide)]
        have f2 : badOf ld n (line :: R') = line :: badOf ld n R' := by unfold badOf; rw [List.filter_cons_of_pos (by rw [hokB]; rfl)]
        rw [f1] at hv2 hkk
        rw [f2] at hv3 hb
        subst hb; subst hkk
        rw [List.length_cons] at hv3
        have hbl : (i64s (line :: badOf ld n R')).length = ((badOf ld n R').length + 1) * 1 := by rw [i64s_len, List.length_cons, Nat.mul_one]
        obtain ⟨gg, go, hga, _, hncap2, htl⟩ := hv3.tail (size := 1) hbl
        subst hga
        have hdr : (i64s (line :: badOf ld n R')).drop 1 = i64s (badOf ld n R') := rfl
        rw [hdr] at htl
        obtain ⟨g', o', hga', _, hc2⟩ := hv3.head (by omega)
        cases hga'
        refine ⟨fun _ => ?_, fun hz => absurd (show (0 : Int) < (((badOf ld n R').length + 1 : Nat) : Int) by omega) hz⟩
        refine ⟨0, rfl, by omega, _, hc2 0 _ rfl, fun _ => ?_, fun hne => absurd rfl hne⟩
        refine ⟨1, (badOf ld n R').length + 1, rfl, rfl, by omega, hncap2, ?_⟩
        refine ⟨((j + 1 : Nat) : Int), by rw [w64 (by omega)]; omega, ?_⟩
        exact ⟨rfl, (j + 1, .slice ak (blksOf ld n R').length ck, .slice (some (sadr gg go 1 1 cb)) ((badOf ld n R').length + 1 - 1) (cb - 1)), ⟨rfl, rfl, rfl, rfl, rfl, rfl, rfl, rfl, rfl, rfl, trivial⟩, ⟨hjl, tW, by dsimp only; rw [hdn]; exact hv2, by dsimp only; rw [hdn]; exact htl⟩, by dsimp only; omega⟩
    · have hge' : ¬ ((j : Nat) : Int) < ((stOf ld n k).length : Nat) := hge
      have hjl : j = (stOf ld n k).length := by omega
      have hi1 : (startsK ld n k).length + j = (startsK ld n (k + 1)).length := by rw [startsK_succ, List.length_append, hjl]
      rw [hi1] at hv2 hv3
      refine ⟨((k + 1 : Nat) : Int), by rw [w64 (by omega)]; omega, ?_⟩
      exact ⟨rfl, (k + 1, v2, v3), ⟨rfl, rfl, rfl, rfl, rfl, rfl, trivial⟩, ⟨hkc, tW', hv2, hv3⟩, by dsimp only; omega⟩
  · have hge' : ¬ ((k : Nat) : Int) < ((scanC ld n).length : Nat) := hge
    have hkn : k = chunksN n := by omega
    subst hkn
    rw [hTd, List.drop_length] at hv2 hv3
    obtain ⟨ak, ck, hkk⟩ := hv2.slice
    obtain ⟨ab, cb, hb⟩ := hv3.slice
    subst hkk; subst hb
    refine ⟨0, by show IntKind.i64.wrap (((0 : Nat) : Int) + ((0 : Nat) : Int)) = 0; decide, fun h => absurd h (by decide), fun _ => ⟨rfl, t2.ext tW0⟩⟩

end

end Go.Proofs.YthepaakejpbppaaGreatDoor

/- class: Fill. -/
namespace Go.Proofs.YthepaakejpbppaaGreatDoor
open Go.E

def stateI (L : List Ln) (n : Int) : Int := if inB L n then ((chk (lnAt L n.toNat).ws (lnAt L n.toNat).code).state : Int) else -1
def storeK (L : List Ln) (base : Int) (ws : List Int) : Nat → List Ln
  | 0 => L
  | k + 1 => (putL (storeK L base ws k) (base + k) (ws.getD k 0)).2
def flushK (L : List Ln) (line : Int) : Nat → List Ln
  | 0 => L
  | k + 1 => (flushL (flushK L line k) (line + k)).2
def fillBad (L : List Ln) (line : Int) (len : Nat) : Prop := 0 < len ∧ ∃ j, j ≤ len / 8 ∧ stateI L (line + (j : Nat)) = 2
open Classical in
noncomputable def fillL (ld : Int → Int × Int) (n : Nat) (L : List Ln) (p : Int) (ws : List Int) : Int × List Ln :=
  if (followL ld n p).2 ≠ 0 then ((followL ld n p).2, L)
  else if roomP (followL ld n p).1.2.1 < ws.length then (8, L)
  else if ws.all wordI = false then (1, L)
  else if fillBad L (followL ld n p).1.1 ws.length then (9, L)
  else (0, flushK (storeK L (8 * (followL ld n p).1.1 + 1) ws ws.length) (followL ld n p).1.1 (ws.length / 8 + 1))

theorem storeK_len (L : List Ln) (base : Int) (ws : List Int) : ∀ k, (storeK L base ws k).length = L.length
  | 0 => rfl
  | k + 1 => by
    show (putL _ _ _).2.length = _
    rw [putL_len, storeK_len L base ws k]
theorem flushK_len (L : List Ln) (line : Int) : ∀ k, (flushK L line k).length = L.length
  | 0 => rfl
  | k + 1 => by
    show (flushL _ _).2.length = _
    rw [flushL_len, flushK_len L line k]

section
variable {w : World} {n v m : Nat} {L : List Ln} {span N : Nat} {FM : List Nat} {E : List (Int × Int)} {FV : List Nat}

theorem M_calls (w : World) (m : Nat) : Calls cx.P 86 #[.agg #[.pointer (some ⟨m, 0, none⟩)]] w (Ret fun x w' => x = .pointer (some ⟨m, 0, none⟩) ∧ Tr [] w w') := by
  refine calls_body cx_ok (args := [.agg #[.pointer (some ⟨m, 0, none⟩)]]) Tryz.func86 rfl 5 rfl rfl [.tmp 2] rfl ?_
  intro b w1 n1
  exact ⟨_, n1.blk.cell rfl, rfl, n1.tr⟩

theorem fill1_calls (x : Int) (W : World) : Calls cx.P 85 #[.int .i64 x] W (Ret fun v W' => v = .bool (!wordI x) ∧ W = W') := by
  refine calls_body cx_ok (args := [.int .i64 x]) Tryz.func85 rfl 9 rfl rfl [.tmp 2] rfl ?_
  have hx : wordI x = decide (0 ≤ x ∧ x ≤ 1099511627775) := rfl
  rw [hx]
  refine ⟨fun h0 => ?_, fun h0 => ⟨fun h1 => ?_, fun h1 => ?_⟩⟩
  · exact ⟨by rw [decide_eq_false (by omega)]; rfl, rfl⟩
  · exact ⟨by rw [decide_eq_false (by omega)]; rfl, rfl⟩
  · exact ⟨by rw [decide_eq_true (by omega)]; rfl, rfl⟩

set_option maxHeartbeats 4000000 in
theorem Fill_calls (hm : IMem w m L span N FM) (hg : Gl w) (hv : RdV w 133 v m E) (hE : E.length ≤ 1099511627776) (hEw : ∀ e ∈ E, 0 ≤ e.2 ∧ e.2 ≤ 1099511627775) (hn : InL n) (hN : N + 400 < 549755813888) (p : Int) (hp : inI64 p)
    {ws : List Int} {s : Value} {D : Nat → Prop} (hs : SliZD w s ws.length (i64s ws) D) (hD : ∀ c, D c → c ∉ FM) (hlen : ws.length ≤ 140) :
    Calls cx.P 30 #[.pointer (some ⟨v, 0, none⟩), .agg (lcs n).toArray, .int .i64 p, s] w
      (Ret fun x w' => x = .int .i64 (fillL (viewL E (loadL L)) n L p ws).1 ∧ ∃ FM', IMem w' m (fillL (viewL E (loadL L)) n L p ws).2 span (N + 400) FM' ∧ Step w w' FM FM') := by
  have hch := hn.chunks
  have hld := viewL_ok (loadL_ok hm.ok) hEw
  obtain ⟨ax, cs, hss⟩ := hs.slice
  subst hss
  refine calls_body cx_ok (args := [.pointer (some ⟨v, 0, none⟩), .agg (lcs n).toArray, .int .i64 p, .slice ax ws.length cs]) Tryz.func30 rfl 89 rfl rfl [.tmp 8] rfl ?_
  intro b5 w1 n1
  have e1 := n1.num; have z1 := n1.size
  have B5 : Blk w1 b5 (lcs n) 28 := n1.blk
  refine ⟨_, B5.all, rfl, ?_⟩
  refine call (Follow_calls (hg.ext n1.tr) hld hn (VLoad_calls (hv.ext n1.tr) hE ((hm.ext n1.tr).load (hg.ext n1.tr))) p hp) ?_
  rintro _ w2 ⟨rfl, t2⟩
  have z2 := t2.size
  have hfr := followL_range hld hn p
  have hbr := blockL_range hld hn (lineP p)
  have fin : ∀ (e : Int) (W : World), Tr [] w W → fillL (viewL E (loadL L)) n L p ws = (e, L) → (Value.int .i64 e = .int .i64 (fillL (viewL E (loadL L)) n L p ws).1 ∧ ∃ FM', IMem W m (fillL (viewL E (loadL L)) n L p ws).2 span (N + 400) FM' ∧ Step w W FM FM') := by
    intro e W t h
    rw [h]
    exact ⟨rfl, FM, (hm.ext t).mono (by omega), t.of_ext, fun b hb => .inl hb⟩
  unfold fillL at fin ⊢
  generalize followL (viewL E (loadL L)) n p = b at *
  intro b9 w3 n3
  have e3 := n3.num; have z3 := n3.size
  refine ⟨_, _, n3.blk, rfl, by show 0 + 4 ≤ 4; decide, rfl, fun w4 u4 => ?_⟩
  have z4 := u4.size
  have t14 : Tr [] w1 w4 := u4.ext (t2.ext n3.tr) (by omega)
  have B9 : Blk w4 b9 (bcells b.1) 44 := u4.blk
  have t04 := n1.tr.ext t14
  refine ⟨fun he => ?_, fun he => ?_⟩
  · rw [if_neg (fun h => h he)] at *
    obtain ⟨f1, f2⟩ := hfr he
    obtain ⟨q1, q2, q3, q4, q5, q6⟩ := hbr f2
    rw [← f1] at q1 q4 q5 q6
    refine ⟨_, B9.cell rfl, ?_⟩
    refine call (Room_calls b.1.2.1 w4) ?_
    rintro _ _ ⟨rfl, rfl⟩
    refine ⟨fun hbig => ?_, fun hbig => ?_⟩
    · rw [if_pos hbig] at *
      exact fin 8 w4 t04 rfl
    rw [if_neg hbig] at *
    refine call (ContainsFunc_calls ws (.slice ax ws.length cs) (hs.ext t04).z (by omega) 85 rfl (fun x => !wordI x) (fun x W _ => fill1_calls x W)) ?_
    rintro _ _ ⟨rfl, rfl⟩
    have hany : (ws.any fun x => !wordI x) = !ws.all wordI := by rw [List.all_eq_not_any_not]; simp
    rw [hany]
    cases hall : ws.all wordI with
    | false =>
      rw [if_pos hall] at fin
      have := fin 1 w4 t04 rfl
      exact this
    | true =>
    rw [if_neg (by rw [hall]; decide)] at fin
    rw [if_neg (by decide)]
    obtain ⟨line, hlineE⟩ : ∃ line, line = b.1.1 := ⟨_, rfl⟩
    rw [← hlineE] at fin ⊢ q1
    have C9 : w4.cell? ⟨b9, 0 + 0, none⟩ = some (.int .i64 line) := by rw [hlineE]; exact B9.cell rfl
    obtain ⟨sl, V, _⟩ := hv.ext t04
    have hquo : IntKind.i64.wrap (((ws.length : Nat) : Int).tdiv 8) = ((ws.length / 8 : Nat) : Int) := by rw [IntWalk.i64_quo _ _ (by omega)]; omega
    refine draw_rule cx_ok [] (Plan.takes [0, 1, 2, 3, 5, 6, 7, 8, 9, 10] (.one true 4 (Plan.takes [11, 12] .done))) (by kernel_rfl) ?_
    intro w5 d
    refine ⟨[.pointer (some ⟨m, 0, none⟩)], fun w' t => ?_, rfl, .int .i64 line, fun w' t => t.cell C9 (by simp), ((ws.length / 8 : Nat) : Int), by decide, hquo, (line + ((ws.length / 8 : Nat) : Int)), by rw [w64 (by omega)], ?_⟩
    · intro j v' hj
      rcases j with _ | j
      · have := (V.ext t).cell (o := 0) rfl
        rw [show 0 + 0 + 0 = 0 by omega]
        rw [this]; exact hj
      · simp at hj
    refine ⟨?_, trivial⟩
    refine call (M_calls w5 m) ?_
    rintro _ w6 ⟨rfl, t6⟩
    have t46 := d.tr.ext t6
    have t06 := t04.ext t46
    refine ⟨t46, ?_⟩
    have C96 : ∀ W S, Tr S w6 W → b9 ∉ S → W.cell? ⟨b9, 0 + 0, none⟩ = some (.int .i64 line) := fun W S t h => t.cell (t46.cell C9 (by simp)) h
    have hm6 := hm.ext t06
    have hg6 := hg.ext t06
    have hs6 := hs.ext t06
    have hb9 : b9 ∉ FM := fun h => by have := hm.lt b9 h; omega
    have hb9l : b9 < w6.heap.size := by have := B9.lt; have := t46.size; omega
    have hl140 : ws.length / 8 ≤ 17 := by omega
    obtain ⟨mm, hmm⟩ : ∃ mm, mm = ws.length / 8 := ⟨_, rfl⟩
    rw [← hmm] at hl140
    have hmm8 : 8 * mm ≤ ws.length ∧ ws.length < 8 * mm + 8 := by omega
    refine ⟨_, C96 w6 [] (Tr.refl _ _) (by simp), ?_⟩
    refine loop_rule cx_ok (fun (k : Nat) W => (k ≤ mm + 1 ∧ ∀ j, j < k → 0 < ws.length → stateI L (line + (j : Nat)) ≠ 2) ∧ Tr [] w6 W)
      (fun k : Nat => [(3, .slice ax ws.length cs), (9, .pointer (some ⟨b9, 0, none⟩)), (11, .pointer (some ⟨m, 0, none⟩)), (12, .int .i64 (line + (mm : Nat))), (13, .int .i64 (line + (k : Nat)))]) (fun k => mm + 1 - k) 0
      ⟨rfl, rfl, rfl, by rw [hmm]; rfl, by simp; rfl, trivial⟩ ⟨⟨by omega, fun j hj => by omega⟩, Tr.refl _ _⟩ ?_
    rintro k W ⟨⟨hk, hno⟩, tW⟩
    have after : (0 < ws.length → ∀ j, j ≤ mm → stateI L (line + (j : Nat)) ≠ 2) → ¬ fillBad L line ws.length := fun h hb => by
      obtain ⟨h0, j, hj, hj2⟩ := hb
      exact h h0 j (by omega) hj2
    refine ⟨fun hle => ⟨fun hpos => ?_, fun hz => ?_⟩, fun hgt => ?_⟩
    · have hle' : line + ((k : Nat) : Int) ≤ line + ((mm : Nat) : Int) := hle
      have hpos' : (0 : Int) < ((ws.length : Nat) : Int) := hpos
      refine call ((hm6.ext tW).state (hg6.ext tW) (line + (k : Nat))) ?_
      rintro _ W3 ⟨rfl, t3⟩
      refine ⟨fun h2 => ?_, fun hn2 => ?_⟩
      · have hbad : fillBad L line ws.length := ⟨by omega, k, by omega, h2⟩
        rw [if_pos hbad] at fin ⊢
        exact fin 9 W3 (t06.ext (tW.ext t3)) rfl
      · refine ⟨(line + ((k + 1 : Nat) : Int)), by rw [w64 (by omega)]; omega, ?_⟩
        refine ⟨rfl, k + 1, ⟨rfl, rfl, rfl, rfl, rfl, trivial⟩, ⟨⟨by omega, fun j hj h0 => ?_⟩, tW.ext t3⟩, by omega⟩
        by_cases hjk : j = k
        · subst hjk; exact hn2
        · exact hno j (by omega) h0
    · have hz' : ¬ (0 : Int) < ((ws.length : Nat) : Int) := hz
      have hnb := after (fun h0 => absurd h0 (by omega))
      rw [if_neg hnb]
      refine loop_rule cx_ok (fun (k : Nat) W' => k ≤ ws.length ∧ ∃ F', IMem W' m (storeK L (8 * line + 1) ws k) span (N + k) F' ∧ Step w6 W' FM F')
        (fun k : Nat => [(9, .pointer (some ⟨b9, 0, none⟩)), (11, .pointer (some ⟨m, 0, none⟩)), (12, .int .i64 (line + (mm : Nat))), (62, .slice ax ws.length cs), (63, .int .i64 (ws.length : Nat)), (64, .int .i64 (k : Nat))]) (fun k => ws.length - k) 0
        ⟨rfl, rfl, rfl, rfl, rfl, rfl, trivial⟩ ⟨by omega, FM, hm6.ext tW, tW.of_ext, fun b hb => .inl hb⟩ ?_
      rintro i W1 ⟨hi, F1, hm1, st1⟩
      refine ⟨fun hlt => ?_, fun hge => ?_⟩
      · have hil : i < ws.length := by omega
        obtain ⟨g, o, hax, _, _, hcs⟩ := (hs6.tr st1.tr (fun c hc hd => hD c hd hc)).head (by omega)
        subst hax
        have hxi : ws[i]? = some ws[i] := List.getElem?_eq_getElem hil
        have hgd : ws.getD i 0 = ws[i] := by rw [List.getD_eq_getElem?_getD, hxi]; rfl
        refine ⟨i, rfl, hil, _, by rw [Nat.mul_one]; exact hcs i _ (i64s_get hxi), ?_⟩
        refine ⟨_, C96 W1 FM st1.tr hb9, (8 * line), by rw [w64 (by omega)], (8 * line + 1), by rw [w64 (by omega)], (8 * line + 1 + i), by rw [w64 (by omega)], ?_⟩
        refine call (Store_gen hm1 (hm6.gl hg6 st1) (by omega) (8 * line + 1 + i) ws[i] (by unfold inI64; omega)) ?_
        rintro _ W2 ⟨rfl, F2, hm2, st2⟩
        refine ⟨((i + 1 : Nat) : Int), by rw [w64 (by omega)]; omega, ?_⟩
        refine ⟨rfl, i + 1, ⟨rfl, rfl, rfl, rfl, rfl, rfl, trivial⟩, ⟨by omega, F2, ?_, st1.trans st2⟩, by omega⟩
        show IMem W2 m (putL (storeK L (8 * line + 1) ws i) (8 * line + 1 + i) (ws.getD i 0)).2 span (N + i + 1) F2
        rw [hgd]
        exact hm2
      · obtain rfl : i = ws.length := by omega
        refine ⟨_, C96 W1 FM st1.tr hb9, ?_⟩
        refine loop_rule cx_ok (fun (k : Nat) W' => k ≤ mm + 1 ∧ ∃ F', IMem W' m (flushK (storeK L (8 * line + 1) ws ws.length) line k) span (N + ws.length + k) F' ∧ Step w6 W' FM F')
          (fun k : Nat => [(11, .pointer (some ⟨m, 0, none⟩)), (12, .int .i64 (line + (mm : Nat))), (16, .int .i64 (line + (k : Nat)))]) (fun k => mm + 1 - k) 0
          ⟨rfl, rfl, by simp; rfl, trivial⟩ ⟨by omega, F1, hm1, st1⟩ ?_
        rintro j W2 ⟨hj, F2, hm2, st2⟩
        refine ⟨fun hle => ?_, fun hgt => ?_⟩
        · have hle' : line + ((j : Nat) : Int) ≤ line + ((mm : Nat) : Int) := hle
          refine call (Flush_gen hm2 (by omega) (line + (j : Nat))) ?_
          rintro _ W3 ⟨rfl, F3, hm3, st3⟩
          refine ⟨(line + ((j + 1 : Nat) : Int)), by rw [w64 (by omega)]; omega, ?_⟩
          exact ⟨rfl, j + 1, ⟨rfl, rfl, rfl, trivial⟩, ⟨by omega, F3, hm3, st2.trans st3⟩, by omega⟩
        · have hgt' : ¬ line + ((j : Nat) : Int) ≤ line + ((mm : Nat) : Int) := hgt
          obtain rfl : j = mm + 1 := by omega
          rw [← hmm]
          exact ⟨rfl, F2, hm2.mono (by omega), Step.of_ext t06 st2⟩
    · have hgt' : ¬ line + ((k : Nat) : Int) ≤ line + ((mm : Nat) : Int) := hgt
      have hnb := after (fun h0 j hj => hno j (by omega) h0)
      rw [if_neg hnb]
      refine loop_rule cx_ok (fun (k : Nat) W' => k ≤ ws.length ∧ ∃ F', IMem W' m (storeK L (8 * line + 1) ws k) span (N + k) F' ∧ Step w6 W' FM F')
        (fun k : Nat => [(9, .pointer (some ⟨b9, 0, none⟩)), (11, .pointer (some ⟨m, 0, none⟩)), (12, .int .i64 (line + (mm : Nat))), (62, .slice ax ws.length cs), (63, .int .i64 (ws.length : Nat)), (64, .int .i64 (k : Nat))]) (fun k => ws.length - k) 0
        ⟨rfl, rfl, rfl, rfl, rfl, rfl, trivial⟩ ⟨by omega, FM, hm6.ext tW, tW.of_ext, fun b hb => .inl hb⟩ ?_
      rintro i W1 ⟨hi, F1, hm1, st1⟩
      refine ⟨fun hlt => ?_, fun hge => ?_⟩
      · have hil : i < ws.length := by omega
        obtain ⟨g, o, hax, _, _, hcs⟩ := (hs6.tr st1.tr (fun c hc hd => hD c hd hc)).head (by omega)
        subst hax
        have hxi : ws[i]? = some ws[i] := List.getElem?_eq_getElem hil
        have hgd : ws.getD i 0 = ws[i] := by rw [List.getD_eq_getElem?_getD, hxi]; rfl
        refine ⟨i, rfl, hil, _, by rw [Nat.mul_one]; exact hcs i _ (i64s_get hxi), ?_⟩
        refine ⟨_, C96 W1 FM st1.tr hb9, (8 * line), by rw [w64 (by omega)], (8 * line + 1), by rw [w64 (by omega)], (8 * line + 1 + i), by rw [w64 (by omega)], ?_⟩
        refine call (Store_gen hm1 (hm6.gl hg6 st1) (by omega) (8 * line + 1 + i) ws[i] (by unfold inI64; omega)) ?_
        rintro _ W2 ⟨rfl, F2, hm2, st2⟩
        refine ⟨((i + 1 : Nat) : Int), by rw [w64 (by omega)]; omega, ?_⟩
        refine ⟨rfl, i + 1, ⟨rfl, rfl, rfl, rfl, rfl, rfl, trivial⟩, ⟨by omega, F2, ?_, st1.trans st2⟩, by omega⟩
        show IMem W2 m (putL (storeK L (8 * line + 1) ws i) (8 * line + 1 + i) (ws.getD i 0)).2 span (N + i + 1) F2
        rw [hgd]
        exact hm2
      · obtain rfl : i = ws.length := by omega
        refine ⟨_, C96 W1 FM st1.tr hb9, ?_⟩
        refine loop_rule cx_ok (fun (k : Nat) W' => k ≤ mm + 1 ∧ ∃ F', IMem W' m (flushK (storeK L (8 * line + 1) ws ws.length) line k) span (N + ws.length + k) F' ∧ Step w6 W' FM F')
          (fun k : Nat => [(11, .pointer (some ⟨m, 0, none⟩)), (12, .int .i64 (line + (mm : Nat))), (16, .int .i64 (line + (k : Nat)))]) (fun k => mm + 1 - k) 0
          ⟨rfl, rfl, by simp; rfl, trivial⟩ ⟨by omega, F1, hm1, st1⟩ ?_
        rintro j W2 ⟨hj, F2, hm2, st2⟩
        refine ⟨fun hle => ?_, fun hgt => ?_⟩
        · have hle' : line + ((j : Nat) : Int) ≤ line + ((mm : Nat) : Int) := hle
          refine call (Flush_gen hm2 (by omega) (line + (j : Nat))) ?_
          rintro _ W3 ⟨rfl, F3, hm3, st3⟩
          refine ⟨(line + ((j + 1 : Nat) : Int)), by rw [w64 (by omega)]; omega, ?_⟩
          exact ⟨rfl, j + 1, ⟨rfl, rfl, rfl, trivial⟩, ⟨by omega, F3, hm3, st2.trans st3⟩, by omega⟩
        · have hgt' : ¬ line + ((j : Nat) : Int) ≤ line + ((mm : Nat) : Int) := hgt
          obtain rfl : j = mm + 1 := by omega
          rw [← hmm]
          exact ⟨rfl, F2, hm2.mono (by omega), Step.of_ext t06 st2⟩
  · rw [if_pos he] at *
    exact fin b.2 w4 t04 rfl

end

end Go.Proofs.YthepaakejpbppaaGreatDoor
