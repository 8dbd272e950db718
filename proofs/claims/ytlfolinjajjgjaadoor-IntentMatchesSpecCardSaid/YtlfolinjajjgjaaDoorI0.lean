/- intent: the slots; slices.Index, Contains, Clone; lines. -/
import Derived.Test.YtlfolinjajjgjaaDoorM7
namespace Go.Proofs.YtlfolinjajjgjaaDoor
open Go.E

/-- A slot. -/
structure Sl where
  slot : Nat
  owner : Nat
  stamp : Nat
  blocks : List Nat
  deriving DecidableEq

def blocksOf (ws : List Nat) : List Nat := (ws.drop 2).takeWhile (fun x => x != 0)
def slotOf (i : Nat) (ws : List Nat) : List Sl := if ws.getD 0 0 = 0 then [] else [⟨i, ws.getD 0 0, ws.getD 1 0, blocksOf ws⟩]

/-- What Read returns of the first n lines; none: one is rotten. -/
def rdTo (f : Nat → Option (List Nat)) : Nat → Option (List Sl)
  | 0 => some []
  | i + 1 => match rdTo f i, f i with
    | some S, some ws => some (S ++ slotOf i ws)
    | _, _ => none

theorem rdTo_none {f : Nat → Option (List Nat)} {i : Nat} (h : f i = none) : ∀ n, i < n → rdTo f n = none := by
  intro n
  induction n with
  | zero => intro hi; omega
  | succ n ih =>
    intro hi
    unfold rdTo
    by_cases hin : i = n
    · subst hin
      rw [h]
      split
      · rename_i h2; cases h2
      · rfl
    · rw [ih (by omega)]

/-! Slices of integers -/

def icells (xs : List Nat) : List Value := xs.map fun n : Nat => .int .i64 (n : Int)
theorem icells_len (xs : List Nat) : (icells xs).length = xs.length := by simp [icells]
theorem icells_one (xs : List Nat) : (icells xs).all E.one = true := by simp [icells, E.one]
theorem icells_get {xs : List Nat} {i x : Nat} (h : xs[i]? = some x) : (icells xs)[i]? = some (.int .i64 (x : Nat)) := by simp [icells, h]

/-- A slice whose cells are xs, to read alone. -/
def Sli (w : World) (v : Value) (n : Nat) (xs : List Value) : Prop := ∃ a c, v = .slice a n c ∧ n ≤ c ∧ ((a = none ∧ n = 0) ∨ ∃ g o, a = some ⟨g, o, none⟩ ∧ Cells w g o xs)

theorem Row.sli {w : World} {e size n : Nat} {v : Value} {xs : List Value} (h : Row w e size v n xs) : Sli w v n xs := by
  rcases Row.elem h with ⟨rfl, rfl⟩ | ⟨g, cap, rfl, hn, _, hc⟩
  · exact ⟨none, 0, rfl, Nat.le_refl _, .inl ⟨rfl, rfl⟩⟩
  · exact ⟨_, cap, rfl, hn, .inr ⟨g, 0, rfl, hc⟩⟩

theorem Sli.ext {w w' : World} {v : Value} {n : Nat} {xs : List Value} (h : Sli w v n xs) (t : Tr [] w w') : Sli w' v n xs := by
  obtain ⟨a, c, hv, hn, h | ⟨g, o, ha, hc⟩⟩ := h
  · exact ⟨a, c, hv, hn, .inl h⟩
  · exact ⟨a, c, hv, hn, .inr ⟨g, o, ha, hc.ext t⟩⟩

/-- The place of a number. -/
def idxOf (xs : List Nat) (v : Int) : Int := match xs.findIdx? (fun x : Nat => v == (x : Int)) with
  | some i => (i : Int)
  | none => -1

theorem Index_calls (w : World) (xs : List Nat) (s : Value) (hs : Sli w s xs.length (icells xs)) (hb : xs.length ≤ 4611686018427387904) (v : Int) :
    Calls cx.P 35 #[s, .int .i64 v] w (Ret fun x w' => x = .int .i64 (idxOf xs v) ∧ w = w') := by
  obtain ⟨a, c, rfl, _, hs⟩ := hs
  refine calls_body cx_ok (args := [.slice a xs.length c, .int .i64 v]) Tryd.func35 rfl 19 rfl rfl [.tmp 4] rfl ?_
  refine loop_rule cx_ok (fun k W => k ≤ xs.length ∧ (∀ i x, i < k → xs[i]? = some x → v ≠ (x : Int)) ∧ w = W) (fun k : Nat => [(0, .slice a xs.length c), (1, .int .i64 v), (7, .int .i64 xs.length), (8, .int .i64 k)]) (fun k => xs.length - k) 0 ⟨rfl, rfl, rfl, rfl, trivial⟩ ⟨by omega, fun i x hi => by omega, rfl⟩ ?_
  rintro k _ ⟨hk, hno, rfl⟩
  refine ⟨fun hlt => ?_, fun hge => ?_⟩
  · have hk' : k < xs.length := by omega
    obtain ⟨g, o, rfl, hc⟩ := hs.resolve_left (fun hh => by have := hh.2; omega)
    have hx : xs[k]? = some xs[k] := List.getElem?_eq_getElem hk'
    have hcell : w.cell? ⟨g, o + k * 1, none⟩ = some (.int .i64 (xs[k] : Nat)) := by rw [Nat.mul_one]; exact hc k _ (icells_get hx)
    refine ⟨k, rfl, hk', _, hcell, fun he => ?_, fun hne => ?_⟩
    · refine ⟨?_, rfl⟩
      have : xs.findIdx? (fun x : Nat => v == (x : Int)) = some k := by
        rw [List.findIdx?_eq_some_iff_getElem]
        refine ⟨hk', by simpa using he, fun j hj => ?_⟩
        have := hno j xs[j] hj (List.getElem?_eq_getElem (by omega))
        simpa using this
      unfold idxOf
      rw [this]
      rfl
    · refine ⟨((k + 1 : Nat) : Int), by rw [w64 (by omega)]; omega, ?_⟩
      refine ⟨rfl, k + 1, ⟨rfl, rfl, rfl, rfl, trivial⟩, ⟨by omega, fun i x hi hx' => ?_, rfl⟩, by omega⟩
      by_cases hik : i = k
      · subst hik
        rw [hx] at hx'
        obtain rfl := Option.some.inj hx'
        exact hne
      · exact hno i x (by omega) hx'
  · obtain rfl : k = xs.length := by omega
    refine ⟨?_, rfl⟩
    have : xs.findIdx? (fun x : Nat => v == (x : Int)) = none := by
      rw [List.findIdx?_eq_none_iff]
      intro x hx
      obtain ⟨i, hi⟩ := List.mem_iff_getElem?.1 hx
      have := hno i x (List.getElem?_eq_some_iff.1 hi).1 hi
      simpa using this
    unfold idxOf
    rw [this]
    rfl

theorem idxOf_neg {xs : List Nat} {v : Int} : 0 ≤ idxOf xs v ↔ ∃ x ∈ xs, v = (x : Int) := by
  unfold idxOf
  cases h : xs.findIdx? (fun x : Nat => v == (x : Int)) with
  | none =>
    rw [List.findIdx?_eq_none_iff] at h
    constructor
    · intro h0; exact absurd h0 (by decide)
    · rintro ⟨x, hx, hv⟩
      have := h x hx
      simp [hv] at this
  | some i =>
    rw [List.findIdx?_eq_some_iff_getElem] at h
    obtain ⟨hi, hv, _⟩ := h
    constructor
    · intro _; exact ⟨_, List.getElem_mem hi, by simpa using hv⟩
    · intro _; exact Int.natCast_nonneg _

theorem Contains_calls (w : World) (xs : List Nat) (s : Value) (hs : Sli w s xs.length (icells xs)) (hb : xs.length ≤ 4611686018427387904) (v : Int) :
    Calls cx.P 49 #[s, .int .i64 v] w (Ret fun x w' => x = .bool (xs.any fun x : Nat => v == (x : Int)) ∧ w = w') := by
  refine calls_body cx_ok (args := [s, .int .i64 v]) Tryd.func49 rfl 9 rfl rfl [.tmp 4] rfl ?_
  refine call (Index_calls w xs s hs hb v) ?_
  rintro _ _ ⟨rfl, rfl⟩
  refine ⟨fun h => ?_, fun h => ?_⟩
  · obtain ⟨x, hx, hv⟩ := idxOf_neg.1 h
    refine ⟨?_, rfl⟩
    have : (xs.any fun x : Nat => v == (x : Int)) = true := List.any_eq_true.2 ⟨x, hx, by simpa using hv⟩
    rw [this]; rfl
  · refine ⟨?_, rfl⟩
    have : (xs.any fun x : Nat => v == (x : Int)) = false := by
      rw [List.any_eq_false]
      intro x hx hv
      exact h (idxOf_neg.2 ⟨x, hx, by simpa using hv⟩)
    rw [this]; rfl

theorem clone_int_calls (w : World) (g o n c : Nat) (xs : List Value) (hl : xs.length = n * 1) (hc : Cells w g o xs) (h1 : xs.all E.one = true) (hn : n ≤ 1099511627776) :
    Calls cx.P 36 #[.slice (some ⟨g, o, none⟩) n c] w (Ret fun v w' => Row w' 3 1 v n xs ∧ Tr [] w w' ∧ ∃ b, v.ownBlock = some b ∧ w.heap.size ≤ b) := by
  refine calls_body cx_ok (args := [.slice (some ⟨g, o, none⟩) n c]) Tryd.func36 rfl 8 rfl rfl [.tmp 2] rfl ?_
  refine ⟨.bool false, w, eql_nil (t := 52) rfl rfl _ _ _ _ _ _, ?_⟩
  refine ⟨[], rfl, fun b w1 n1 => ?_⟩
  have e1 := n1.num; have z1 := n1.size
  refine append_own cx_ok (x := ⟨1, 24, false, [.slice none 0 0], .slice 3⟩) rfl rfl rfl (by decide) (row_empty n1) g o n c xs hl (hc.ext n1.tr) h1 (by omega) (by decide) ?_
  intro v w2 hv t2 hat _
  refine ⟨by simpa using hv, n1.tr.trans t2 (fun _ h => h) (fun c hc hlt => ?_), ?_⟩
  · simp [Value.ownBlock] at hc; omega
  · rcases hat with e | e
    · exact ⟨b, e, by omega⟩
    · exact ⟨_, e, by omega⟩

/-! lines -/

theorem lines_calls (w : World) (p : Nat) (lc : List Value) : Calls cx.P 34 #[.pointer (some ⟨p, 0, none⟩), .agg lc.toArray] w (Ret fun v w' => ∃ b2 b3, v = .func (.func 57) #[] #[.pointer (some ⟨b3, 0, none⟩), .pointer (some ⟨b2, 0, none⟩)] ∧
      Blk w' b2 [.pointer (some ⟨p, 0, none⟩)] 23 ∧ Blk w' b3 lc 27 ∧ Tr [] w w' ∧ w.heap.size ≤ b2 ∧ w.heap.size ≤ b3) := by
  refine calls_body cx_ok (args := [.pointer (some ⟨p, 0, none⟩), .agg lc.toArray]) Tryd.func34 rfl 6 rfl rfl [.tmp 4] rfl ?_
  intro b2 w1 n1 b3 w2 n2
  have e1 := n1.num; have e2 := n2.num; have z1 := n1.size
  exact ⟨b2, b3, rfl, n1.blk.ext n2.tr, n2.blk, n1.tr.ext n2.tr, by omega, by omega⟩

section
variable {p bl bm : Nat} {rows : List (Ln × Value)} {evv : Value} {span nev : Nat}

def shr (r : Ln × Value) : Option (List Nat) := r.1.shows r.1.pend.length

/-- What stands in the words behind k loads. -/
def part8 (o : Option (List Nat)) (k : Nat) : List Nat := match o with
  | some ws => ws.take k ++ zeros8.drop k
  | none => zeros8

set_option maxHeartbeats 1000000 in
theorem lines1_calls (l : Nat) (lc : List Value) (from_ n : Nat) (h3 : lc[3]? = some (.int .i64 (from_ : Nat))) (h4 : lc[4]? = some (.int .i64 (n : Nat))) (hfit : from_ + n ≤ rows.length) (b3 b2 : Nat) (J : Nat → World → Prop) (X : World → Prop)
    (hJ : ∀ i W, J i W → MemX W p bl bm rows evv span nev ∧ Gl W ∧ Blk W b2 [.pointer (some ⟨p, 0, none⟩)] 23 ∧ Blk W b3 lc 27)
    (hS : ∀ i W W', J i W → Tr [] W W' → J i W')
    (hy : ∀ i r W, i < n → rows[from_ + i]? = some r → J i W → CallYP cx l [.agg (optCells (shr r)).toArray, .int .i64 (optErr (shr r))] W fun v W' => (v = .bool true ∧ J (i + 1) W') ∨ (v = .bool false ∧ X W'))
    (w : World) (h0 : J 0 w) : Calls cx.P 57 #[.func (.yield l) #[] #[], .pointer (some ⟨b3, 0, none⟩), .pointer (some ⟨b2, 0, none⟩)] w (Ret fun _ w' => J n w' ∨ X w') := by
  refine calls_body cx_ok (args := [.func (.yield l) #[] #[], .pointer (some ⟨b3, 0, none⟩), .pointer (some ⟨b2, 0, none⟩)]) Tryd.func57 rfl 39 rfl rfl [] rfl ?_
  obtain ⟨hm0, _, _, hb3⟩ := hJ 0 w h0
  have hsml := hm0.small
  refine ⟨_, hb3.cell h4, ?_⟩
  refine loop_rule cx_ok (fun i W => i ≤ n ∧ J i W) (fun i : Nat => [(0, .func (.yield l) #[] #[]), (1, .pointer (some ⟨b3, 0, none⟩)), (2, .pointer (some ⟨b2, 0, none⟩)), (9, .int .i64 n), (10, .int .i64 i)]) (fun i => n - i) 0 ⟨rfl, rfl, rfl, rfl, rfl, trivial⟩ ⟨by omega, h0⟩ ?_
  rintro i W ⟨hi, hJi⟩
  refine ⟨fun hlt => ?_, fun hge => ?_⟩
  · have hin : i < n := by omega
    have hir : from_ + i < rows.length := by omega
    obtain ⟨r, hr⟩ : ∃ r, rows[from_ + i]? = some r := ⟨_, List.getElem?_eq_getElem hir⟩
    intro b5 W1 n5
    have e5 := n5.num; have z5 := n5.size
    have hJ1 := hS i W W1 hJi n5.tr
    obtain ⟨o, ho⟩ : ∃ o, o = shr r := ⟨_, rfl⟩
    have hl8 : (optCells o).length = 8 := by
      obtain ⟨hm, _⟩ := hJ i W hJi
      have hok := hm.ok r (List.mem_of_getElem? hr)
      rcases o with _ | ws
      · rfl
      · exact wcells_len (hok.shows ho.symm)
    -- the call of yield
    refine loop_rule cx_ok (fun k W2 => k ≤ 8 ∧ Tr [] W W2 ∧ Blk W2 b5 (wcells (part8 o k)) 46 ∧ (o = none → k = 0)) (fun k : Nat => [(0, .func (.yield l) #[] #[]), (1, .pointer (some ⟨b3, 0, none⟩)), (2, .pointer (some ⟨b2, 0, none⟩)), (9, .int .i64 n), (10, .int .i64 i), (4, .int .i64 i), (5, .pointer (some ⟨b5, 0, none⟩)), (6, .int .i64 0), (13, .int .i64 k)]) (fun k => 8 - k) 0
      ⟨rfl, rfl, rfl, rfl, rfl, rfl, rfl, rfl, rfl, trivial⟩ ⟨by omega, n5.tr, by rcases o with _ | ws <;> exact n5.blk, fun _ => rfl⟩ ?_
    rintro k W2 ⟨hk, t2, B5, hok0⟩
    have hJ2 := hS i W W2 hJi t2
    obtain ⟨hm2, hg2, C2, C3⟩ := hJ i W2 hJ2
    have hmok := hm2.ok r (List.mem_of_getElem? hr)
    refine ⟨fun hk8 => ?_, fun hk8 => ?_⟩
    · have hk8' : k < 8 := by omega
      refine ⟨_, C2.cell rfl, _, C3.cell h3, ((from_ + i : Nat) : Int), by rw [w64 (by omega)]; omega, ((8 * (from_ + i) : Nat) : Int), by rw [w64 (by omega)]; omega, ((8 * (from_ + i) + k : Nat) : Int), by rw [w64 (by omega)]; omega, ?_⟩
      refine call (Load_calls hm2 hg2 (from_ + i) k hk8' hr) ?_
      rintro v W3 ⟨hv, t3⟩
      rw [show r.1.shows r.1.pend.length = o from ho.symm] at hv
      have B5' := B5.ext t3
      rcases o with _ | ws
      · subst hv
        refine ⟨k, rfl, hk8', _, _, B5', by show 0 + k * 1 < 8; omega, rfl, fun W4 u4 => ?_⟩
        refine ⟨fun h => absurd h (by decide), fun _ => ?_⟩
        have B4 : Blk W4 b5 (wcells zeros8) 46 := by
          have := u4.blk
          have e : (wcells (part8 none k)).set (0 + k * 1) (.int .i64 0) = wcells zeros8 := by
            rw [show 0 + k * 1 = k by omega]
            have : ∀ k, k < 8 → (wcells zeros8).set k (.int .i64 0) = wcells zeros8 := by
              intro k hk
              rcases k with _ | _ | _ | _ | _ | _ | _ | _ | k <;> first | rfl | omega
            exact this k hk8'
          rw [← e]; exact this
        have t4 : Tr [] W W4 := u4.ext (t2.ext t3) (by omega)
        refine ⟨_, B4.all, rfl, ?_⟩
        have hyy := hy i r W4 hin hr (hS i W W4 hJi t4)
        rw [← ho] at hyy
        refine hyy.imp ?_
        rintro v W5 (⟨rfl, hJ5⟩ | ⟨rfl, hX⟩)
        · refine ⟨((i + 1 : Nat) : Int), by rw [w64 (by omega)]; omega, ?_⟩
          exact ⟨rfl, i + 1, ⟨rfl, rfl, rfl, rfl, rfl, trivial⟩, ⟨by omega, hJ5⟩, by omega⟩
        · exact .inr hX
      · subst hv
        have h8 := hmok.shows ho.symm
        obtain ⟨x, hx, hx40, hgd, hxc⟩ := h8.at hk8'
        have hp8 : (part8 (some ws) k).length = 8 := by simp [part8, h8.len, zeros8]; omega
        refine ⟨k, rfl, hk8', _, _, B5', by rw [show (wcells (part8 (some ws) k)).length = 8 by simp [wcells, hp8]]; show 0 + k * 1 < 8; omega, rfl, fun W4 u4 => ?_⟩
        refine ⟨fun _ => ?_, fun h => absurd rfl h⟩
        have B4 : Blk W4 b5 ((wcells (part8 (some ws) k)).set (0 + k * 1) (.int .i64 (ws.getD k 0 : Nat))) 46 := u4.blk
        rw [show 0 + k * 1 = k by omega, ← wcells_set, show (part8 (some ws) k).set k (ws.getD k 0) = part8 (some ws) (k + 1) from by
          have hlk : k < ws.length := by rw [h8.len]; exact hk8'
          have hx' : ws[k] = x := by have := (List.getElem?_eq_some_iff.1 hx).2; exact this
          unfold part8
          simp only
          rw [hgd, List.set_append, if_neg (by simp; omega), List.length_take, Nat.min_eq_left (by omega), Nat.sub_self, List.take_succ_eq_append_getElem hlk, hx', List.drop_eq_getElem_cons (l := zeros8) (i := k) hk8', List.set_cons_zero]
          simp] at B4
        have t4 : Tr [] W W4 := u4.ext (t2.ext t3) (by omega)
        refine ⟨((k + 1 : Nat) : Int), by rw [w64 (by omega)]; omega, ?_⟩
        exact ⟨rfl, k + 1, ⟨rfl, rfl, rfl, rfl, rfl, rfl, rfl, rfl, rfl, trivial⟩, ⟨by omega, t4, B4, fun h => by cases h⟩, by omega⟩
    · obtain rfl : k = 8 := by omega
      rcases o with _ | ws
      · exact absurd (hok0 rfl) (by decide)
      · have h8 := hmok.shows ho.symm
        have hpe : part8 (some ws) 8 = ws := by
          unfold part8
          simp only
          rw [List.take_of_length_le (by rw [h8.len]; exact Nat.le_refl _)]
          simp [zeros8]
        rw [hpe] at B5
        refine ⟨_, B5.all, wcells_len h8, ?_⟩
        have hyy := hy i r W2 hin hr hJ2
        rw [← ho] at hyy
        refine hyy.imp ?_
        rintro v W5 (⟨rfl, hJ5⟩ | ⟨rfl, hX⟩)
        · refine ⟨((i + 1 : Nat) : Int), by rw [w64 (by omega)]; omega, ?_⟩
          exact ⟨rfl, i + 1, ⟨rfl, rfl, rfl, rfl, rfl, trivial⟩, ⟨by omega, hJ5⟩, by omega⟩
        · exact .inr hX
  · obtain rfl : i = n := by omega
    exact .inl hJi

end

end Go.Proofs.YtlfolinjajjgjaaDoor
