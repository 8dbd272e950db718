/- The specification of the slots: opened, Added, Do. -/
import Derived.Test.YtlfolinjajjgjaaDoorA2
namespace Go.Proofs.YtlfolinjajjgjaaDoor
open Go.E

/-- A slot comes in front of the first one behind it. -/
def insG {α : Type} (f : α → Nat) (x : α) : List α → List α
  | [] => [x]
  | s :: r => if f x < f s then x :: s :: r else s :: insG f x r

theorem insG_all {α : Type} {f : α → Nat} {x : α} : ∀ {A B : List α}, (∀ s ∈ A, ¬ f x < f s) → insG f x (A ++ B) = A ++ insG f x B
  | [], B, _ => rfl
  | s :: r, B, h => by
    show (if f x < f s then x :: s :: (r ++ B) else s :: insG f x (r ++ B)) = _
    rw [if_neg (h s (by simp)), insG_all (A := r) fun t ht => h t (by simp [ht])]
    rfl
theorem insG_snoc {α : Type} {f : α → Nat} {x s : α} : ∀ {A : List α}, (∃ t ∈ A, f x < f t) → insG f x (A ++ [s]) = insG f x A ++ [s]
  | [], h => by obtain ⟨t, ht, _⟩ := h; cases ht
  | u :: r, h => by
    show (if f x < f u then x :: u :: (r ++ [s]) else u :: insG f x (r ++ [s])) = (if f x < f u then x :: u :: r else u :: insG f x r) ++ [s]
    split
    · rfl
    · rename_i hu
      rw [insG_snoc (A := r) (by
        obtain ⟨t, ht, hlt⟩ := h
        rcases List.mem_cons.1 ht with rfl | ht
        · exact absurd hlt hu
        · exact ⟨t, ht, hlt⟩)]
      rfl
theorem insG_map {α β : Type} {f : β → Nat} (g : α → β) {x : α} : ∀ {A : List α}, (insG (fun a => f (g a)) x A).map g = insG f (g x) (A.map g)
  | [] => rfl
  | u :: r => by
    show List.map g (if f (g x) < f (g u) then _ else _) = if f (g x) < f (g u) then _ else _
    split
    · rfl
    · rw [List.map_cons, insG_map (A := r)]
theorem insG_len {α : Type} {f : α → Nat} {x : α} : ∀ {A : List α}, (insG f x A).length = A.length + 1
  | [] => rfl
  | u :: r => by
    show List.length (if f x < f u then _ else _) = _
    split
    · rfl
    · rw [List.length_cons, insG_len (A := r)]; rfl

def openF (S : List Sl) (n owner : Nat) (bs : List Nat) : Int × List Sl := if vacF S n < 0 then (8, []) else (0, insG (·.slot) ⟨(vacF S n).toNat, owner, 0, bs⟩ S)

theorem vacF_nat (S : List Sl) (n : Nat) : vacF S n < 0 ∨ ∃ k : Nat, vacF S n = (k : Int) := by
  unfold vacF
  split
  · exact .inr ⟨_, rfl⟩
  · exact .inl (by decide)

section
variable {w : World}

set_option maxHeartbeats 1000000 in
theorem opened_calls {Z : List (Sl × Value)} {s bv : Value} {D : Nat → Prop} (hs : SlD w s Z D) (hn1 : Z.length < 1048576) (hD : ∀ b, D b → b < w.heap.size) (n : Nat) (hn64 : n ≤ 1048576) (ow : Nat) (bs : List Nat) (hb : SliD w bv bs.length (icells bs) D) (hbl : bs.length ≤ 1048576) :
    Calls cx.P 56 #[s, .int .i64 (n : Nat), .int .i64 (ow : Nat), bv] w (Ret fun v w' => Tr [] w w' ∧ SlotsQ w w' D v (openF (Z.map (·.1)) n ow bs).1 (openF (Z.map (·.1)) n ow bs).2) := by
  have hs0 := hs
  obtain ⟨hn, ⟨a, c, rfl, _, hsl⟩, hblk⟩ := hs
  obtain ⟨ab, cb, rfl⟩ := hb.slice
  refine calls_body cx_ok (args := [.slice a Z.length c, .int .i64 (n : Nat), .int .i64 (ow : Nat), .slice ab bs.length cb]) Tryd.func56 rfl 60 rfl rfl [.cell 8 34] rfl ?_
  intro b8 w1 n1
  have e1 := n1.num; have z1 := n1.size
  have B8 : Blk w1 b8 [.slice none 0 0, .int .i64 0] 34 := n1.blk
  have hvac := vacant_calls (Z.map (·.1)) _ (hs0.ext n1.tr).slr n hn64
  refine call hvac ?_
  rintro _ _ ⟨rfl, rfl⟩
  unfold openF
  rcases vacF_nat (Z.map (·.1)) n with hv | ⟨k, hv⟩
  · rw [if_pos hv]
    refine ⟨fun _ => ?_, fun h => absurd hv h⟩
    refine ⟨_, rfl, _, _, B8, rfl, by show 0 + 2 ≤ 2; decide, rfl, fun w2 u2 => ?_⟩
    exact ⟨_, u2.blk.all, rfl, u2.ext n1.tr (by omega), SlotsQ.err (by decide) _⟩
  rw [hv, if_neg (by omega)]
  refine ⟨fun h => absurd h (by omega), fun _ => ?_⟩
  obtain ⟨x, hx⟩ : ∃ x : Sl × Value, x = (⟨k, ow, 0, bs⟩, .slice ab bs.length cb) := ⟨_, rfl⟩
  refine ⟨_, rfl, fun b11 w2 n2 => ?_⟩
  have e2 := n2.num; have z2 := n2.size
  refine ⟨_, _, n2.blk, rfl, by show 0 + 4 ≤ 4; decide, rfl, fun w3 u3 => ?_⟩
  have z3 := u3.size
  have B11 : Blk w3 b11 (zcells x) 54 := by rw [hx]; exact Upd.whole u3 rfl rfl
  have t13 : Tr [] w1 w3 := u3.ext n2.tr (by omega)
  have t03 : Tr [] w w3 := n1.tr.ext t13
  obtain ⟨dn, hdn⟩ : ∃ dn : Nat → Bool, dn = fun i => (Z.take i).any fun s => decide (k < s.1.slot) := ⟨_, rfl⟩
  obtain ⟨fs, hfs⟩ : ∃ fs : Sl × Value → Nat, fs = fun z => z.1.slot := ⟨_, rfl⟩
  have hxk : fs x = k := by rw [hfs, hx]
  obtain ⟨G, hG⟩ : ∃ G : Nat → List (Sl × Value), G = fun i => if dn i = true then insG fs x (Z.take i) else Z.take i := ⟨_, rfl⟩
  have hGl : ∀ i, i ≤ Z.length → (G i).length ≤ 1048576 ∧ (dn i = false → (G i).length < 1048576) := fun i hi => by
    rw [hG]; simp only
    split
    · rename_i hd; rw [insG_len, List.length_take]; exact ⟨by omega, fun h => by rw [h] at hd; cases hd⟩
    · rw [List.length_take]; exact ⟨by omega, fun _ => by omega⟩
  have hbx : x.1.blocks.length ≤ 1048576 ∧ SliD w x.2 x.1.blocks.length (icells x.1.blocks) D := by rw [hx]; exact ⟨hbl, hb⟩
  have hG0 : G 0 = [] := by rw [hG]; simp only; rw [hdn]; simp
  have hO0 : Out w3 D w3.heap.size (.slice none 0 0) (G 0) := by rw [hG0]; exact Out.nil fun b hb => by have := hD b hb; omega
  refine loop_rule cx_ok (α := Nat × Value × Bool) (fun (⟨i, ov, d⟩ : Nat × Value × Bool) W => i ≤ Z.length ∧ Tr [] w3 W ∧ Out W D w3.heap.size ov (G i) ∧ dn i = d)
    (fun (⟨i, ov, d⟩ : Nat × Value × Bool) => [(0, .slice a Z.length c), (8, .pointer (some ⟨b8, 0, none⟩)), (9, .int .i64 (k : Nat)), (10, ov), (11, .pointer (some ⟨b11, 0, none⟩)), (12, .bool d), (13, .int .i64 i)]) (fun x => Z.length - x.1) (0, .slice none 0 0, false)
    ⟨rfl, rfl, rfl, rfl, rfl, rfl, rfl, trivial⟩ ⟨by omega, Tr.refl _ _, hO0, by rw [hdn]; rfl⟩ ?_
  rintro ⟨i, ov, d⟩ W ⟨hi, hW, hO, hd⟩
  have hGi := hGl i hi
  -- one element more
  have more : ∀ (W : World) (ov : Value) (Z0 : List (Sl × Value)) (x : Sl × Value) (b o : Nat) (K : Value → World → Prop), x.1.blocks.length ≤ 1048576 ∧ SliD w x.2 x.1.blocks.length (icells x.1.blocks) D → Z0.length ≤ 1048576 → Tr [] w3 W → Out W D w3.heap.size ov Z0 → Cells W b o (zcells x) →
      (∀ v' W', Out W' D w3.heap.size v' (Z0 ++ [x]) → Tr [] w3 W' → K v' W') → RunV cx.P (Builtin.append_ #[29, 29] 29 #[ov, .slice (some ⟨b, o, none⟩) 1 1]) W K := by
    intro W ov Z0 x b o K hbx hl hW hO hc hK
    exact hO.append hl ⟨hbx.1, hbx.2.ext (t03.ext hW)⟩ b o 1 _ hc fun v' W' hO' ht => hK v' W' hO' (ht w3 (Nat.le_refl _) hW)
  have hw : ∀ i : Nat, i < Z.length → IntKind.i64.wrap ((i : Int) + 1) = ((i + 1 : Nat) : Int) := fun i hi => by rw [w64 (by omega)]; omega
  refine ⟨fun hlt => ?_, fun hge => ?_⟩
  · have hix : i < Z.length := by omega
    obtain ⟨g, o, rfl, hg, hc⟩ := hsl.resolve_left (fun hh => by have := hh.2; omega)
    obtain ⟨z, hz⟩ : ∃ z, Z[i]? = some z := ⟨_, List.getElem?_eq_getElem hix⟩
    have htk := take_snoc hz
    have hcz : ∀ W, Tr [] w3 W → Cells W g (o + i * 4) (zcells z) := fun W hW => (zcells_at hz hc).ext (t03.ext hW)
    have hbz : z.1.blocks.length ≤ 1048576 ∧ SliD w z.2 z.1.blocks.length (icells z.1.blocks) D := hblk z (List.mem_of_getElem? hz)
    have hdst : dn (i + 1) = (dn i || decide (k < z.1.slot)) := by rw [hdn]; simp only; rw [htk, List.any_append]; simp
    cases d with
    | true =>
      rw [hd, Bool.true_or] at hdst
      have hst : G i ++ [z] = G (i + 1) := by
        rw [hG]; simp only
        rw [hd, hdst, htk, if_pos rfl, if_pos rfl, insG_snoc]
        rw [hdn] at hd
        obtain ⟨t, ht, hlt⟩ := List.any_eq_true.1 hd
        exact ⟨t, ht, by rw [hxk, hfs]; exact of_decide_eq_true hlt⟩
      refine ⟨i, rfl, hix, zcells z, hcz W hW, rfl, _, rfl, fun b2 W2 n2 => ?_⟩
      refine more W2 ov _ z b2 0 _ hbz hGi.1 (hW.ext n2.tr) (hO.ext n2.tr) n2.blk.all fun v' W3 hO3 ht3 => ?_
      rw [hst] at hO3
      exact ⟨_, hw i hix, rfl, (i + 1, v', _), ⟨rfl, rfl, rfl, rfl, rfl, rfl, rfl, trivial⟩, ⟨hix, ht3, hO3, hdst⟩, by show Z.length - (i + 1) < Z.length - i; omega⟩
    | false =>
      rw [hd, Bool.false_or] at hdst
      have hall : ∀ s ∈ Z.take i, ¬ fs x < fs s := fun s hs hlt => by
        rw [hdn] at hd
        have := List.any_eq_false.1 hd s hs
        rw [hxk, hfs] at hlt
        have hlt : k < s.1.slot := hlt
        simp at this
        omega
      have hGd : G i = Z.take i := by rw [hG]; simp only; rw [hd]; rfl
      have c0 : W.cell? ⟨g, o + i * 4 + 0, none⟩ = some (.int .i64 (z.1.slot : Nat)) := hcz W hW 0 _ rfl
      refine ⟨i, rfl, hix, _, c0, fun hk => ?_, fun hk => ?_⟩
      · rw [decide_eq_true (by omega)] at hdst
        have hst : (G i ++ [x]) ++ [z] = G (i + 1) := by
          rw [hGd, hG]; simp only
          rw [hdst, htk, if_pos rfl, insG_all hall]
          show _ = _ ++ (if fs x < fs z then [x, z] else _)
          rw [if_pos (by rw [hxk, hfs]; show k < z.1.slot; omega)]
          simp
        refine ⟨zcells x, (B11.ext hW).all, by rw [hx]; rfl, _, fill_one rfl (by rw [hx]; rfl), fun b2 W2 n2 => ?_⟩
        refine more W2 ov _ x b2 0 _ hbx hGi.1 (hW.ext n2.tr) (hO.ext n2.tr) n2.blk.all fun v' W3 hO3 ht3 => ?_
        refine ⟨i, rfl, hix, zcells z, hcz W3 ht3, rfl, _, rfl, fun b4 W4 n4 => ?_⟩
        refine more W4 v' _ z b4 0 _ hbz (by rw [List.length_append]; have := hGi.2 hd; show _ + 1 ≤ _; omega) (ht3.ext n4.tr) (hO3.ext n4.tr) n4.blk.all fun v5 W5 hO5 ht5 => ?_
        rw [hst] at hO5
        exact ⟨_, hw i hix, rfl, (i + 1, v5, _), ⟨rfl, rfl, rfl, rfl, rfl, rfl, rfl, trivial⟩, ⟨hix, ht5, hO5, hdst⟩, by show Z.length - (i + 1) < Z.length - i; omega⟩
      · rw [decide_eq_false (by omega)] at hdst
        have hst : G i ++ [z] = G (i + 1) := by
          rw [hGd, hG]; simp only
          rw [hdst, htk, if_neg (by decide)]
        refine ⟨i, rfl, hix, zcells z, hcz W hW, rfl, _, rfl, fun b2 W2 n2 => ?_⟩
        refine more W2 ov _ z b2 0 _ hbz hGi.1 (hW.ext n2.tr) (hO.ext n2.tr) n2.blk.all fun v' W3 hO3 ht3 => ?_
        rw [hst] at hO3
        exact ⟨_, hw i hix, rfl, (i + 1, v', _), ⟨rfl, rfl, rfl, rfl, rfl, rfl, rfl, trivial⟩, ⟨hix, ht3, hO3, hdst⟩, by show Z.length - (i + 1) < Z.length - i; omega⟩
  · have hix : i = Z.length := by omega
    have fin : ∀ (W : World) (ov : Value), Tr [] w3 W → Out W D w3.heap.size ov (insG fs x Z) → ∀ w5, Upd W b8 (.cells (splice [.slice none 0 0, .int .i64 0] 0 2 [ov, .int .i64 0]).toArray 34) w5 → Tr [] w w5 ∧ SlotsQ w w5 D (.agg #[ov, .int .i64 0]) 0 (insG (·.slot) ⟨k, ow, 0, bs⟩ (Z.map (·.1))) := by
      intro W ov hW hO w5 u5
      have zW := hW.size; have z5 := u5.size
      refine ⟨u5.ext (t03.ext hW) (by omega), ov, rfl, fun _ => ?_, Row.one hO.row⟩
      refine ⟨insG fs x Z, ?_, ((hO.tr u5.tr (fun b hb => by simp at hb; subst hb; exact ⟨fun hd => by have := hD _ hd; omega, by omega⟩)).fin (by rw [insG_len]; omega)).mono fun b hb => hb.imp_right fun h => ⟨by omega, h.2⟩⟩
      rw [hfs]
      have := insG_map (f := fun s : Sl => s.slot) (g := fun z : Sl × Value => z.1) (x := x) (A := Z)
      rw [this, hx]
    cases d with
    | true =>
      have hst : G i = insG fs x Z := by rw [hG]; simp only; rw [hd, hix, List.take_length]; rfl
      rw [hst] at hO
      obtain ⟨ao, co, rfl⟩ := Row.slice hO.row
      refine ⟨_, rfl, _, _, B8.ext (t13.ext hW), rfl, by show 0 + 2 ≤ 2; decide, rfl, fun w5 u5 => ?_⟩
      exact ⟨_, u5.blk.all, rfl, fin W _ hW hO w5 u5⟩
    | false =>
      have hall : ∀ s ∈ Z, ¬ fs x < fs s := fun s hs hlt => by
        rw [hdn] at hd
        simp only [hix, List.take_length] at hd
        have := List.any_eq_false.1 hd s hs
        rw [hxk, hfs] at hlt
        have hlt : k < s.1.slot := hlt
        simp at this
        omega
      have hGd : G i = Z := by rw [hG]; simp only; rw [hd, hix, List.take_length]; rfl
      have hst : Z ++ [x] = insG fs x Z := by
        have := insG_all (B := []) hall
        rw [List.append_nil] at this
        rw [this]; rfl
      rw [hGd] at hO
      refine ⟨zcells x, (B11.ext hW).all, by rw [hx]; rfl, _, fill_one rfl (by rw [hx]; rfl), fun b2 W2 n2 => ?_⟩
      refine more W2 ov _ x b2 0 _ hbx (by omega) (hW.ext n2.tr) (hO.ext n2.tr) n2.blk.all fun v' W3 hO3 ht3 => ?_
      rw [hst] at hO3
      obtain ⟨ao, co, rfl⟩ := Row.slice hO3.row
      refine ⟨_, rfl, _, _, B8.ext (t13.ext ht3), rfl, by show 0 + 2 ≤ 2; decide, rfl, fun w5 u5 => ?_⟩
      exact ⟨_, u5.blk.all, rfl, fin W3 _ ht3 hO3 w5 u5⟩

end

end Go.Proofs.YtlfolinjajjgjaaDoor
