/- IntentKeeps: what the law's function returns. -/
import Derived.Test.YtlfolinjajjgjaaDoorN3
import Derived.Test.YtlfolinjajjgjaaDoorL0
namespace Go.Proofs.YtlfolinjajjgjaaDoor
open Go.E

theorem and7 (a : Int) : ∃ s : Nat, s < 8 ∧ bits .and .i64 a 7 = (s : Int) := by
  have hle : (BitVec.ofInt IntKind.i64.bits a &&& BitVec.ofInt IntKind.i64.bits 7).toNat ≤ 7 := by
    rw [BitVec.toNat_and]
    exact Nat.and_le_right
  refine ⟨(BitVec.ofInt IntKind.i64.bits a &&& BitVec.ofInt IntKind.i64.bits 7).toNat, by omega, ?_⟩
  show IntKind.i64.wrap ((BitVec.ofInt IntKind.i64.bits a &&& BitVec.ofInt IntKind.i64.bits 7).toNat : Int) = _
  exact i64_small (by omega)

theorem bool_neq (p q : Operand) (a b : Bool) (w : World) : (do eqGuard .neq 4 p q (.bool a) (.bool b); binOp .neq 4 (.bool a) (.bool b) : Sem Value).run cx.P w = .ok (.bool (a != b)) w := by
  have hx : cx.P.underlying 4 = some .bool := by kernel_rfl
  have hu : (underlying 4).run cx.P w = .ok .bool w := by simp [underlying, hx]
  have he : (Op.equal 4 (.bool a) (.bool b)).run cx.P w = .ok (a == b) w := by
    show (Op.equalIn (9999 + 1) 4 (.bool a) (.bool b)).run cx.P w = _
    unfold Op.equalIn
    simp only [Sem.run_bind, hu, Result.andThen_ok]
    rfl
  cases a <;> cases b <;> simp [eqGuard, binOp, he]

/-- A list of calls, to read alone. -/
def OpsR (w : World) (v : Value) (ops : List (Int × Int × Int)) : Prop := ∃ a c, v = .slice a ops.length c ∧ (ops.length = 0 ∨ ∃ g o, a = some ⟨g, o, none⟩ ∧ ∀ (i : Nat) (x : Int × Int × Int), ops[i]? = some x → Cells w g (o + i * 3) [.int .i64 x.1, .int .i64 x.2.1, .int .i64 x.2.2])

def runF (from_ n : Nat) (LS : List (List Nat)) (ops : List (Int × Int × Int)) : List (List Nat) := ops.foldl (fun LS x => (doF from_ n LS x.1 x.2.1 x.2.2).2) LS

theorem LI.do {LS : List (List Nat)} {from_ n : Nat} (h : LI LS from_ n) (kind owner x : Int) : LI (doF from_ n LS kind owner x).2 from_ n := by
  unfold doF
  split
  · exact LI.each (fun LS h k hk => h.close hk) _ _ h fun s hs => slotsN_lt hs
  · split
    · unfold stampF
      split
      · exact h
      · exact LI.each (fun LS h k hk => h.stamp hk _) _ _ h fun s hs => slotsN_lt hs
    · exact h.add owner x

theorem LI.run {from_ n : Nat} : ∀ (ops : List (Int × Int × Int)) {LS : List (List Nat)}, LI LS from_ n → LI (runF from_ n LS ops) from_ n
  | [], _, h => h
  | x :: r, LS, h => LI.run r (LS := (doF from_ n LS x.1 x.2.1 x.2.2).2) (h.do x.1 x.2.1 x.2.2)

theorem runF_snoc {from_ n : Nat} {LS : List (List Nat)} {ops : List (Int × Int × Int)} {j : Nat} {x : Int × Int × Int} (h : ops[j]? = some x) : runF from_ n LS (ops.take (j + 1)) = (doF from_ n (runF from_ n LS (ops.take j)) x.1 x.2.1 x.2.2).2 := by
  have hj := (List.getElem?_eq_some_iff.1 h).1
  rw [List.take_succ_eq_append_getElem hj]
  unfold runF
  rw [List.foldl_append]
  simp [(List.getElem?_eq_some_iff.1 h).2]

section
variable {w : World}

theorem San.do {W : World} {p b : Nat} {lc : List Value} {from_ n : Nat} (hl : LayC lc from_ n) {LS : List (List Nat)} (hfit : from_ + n ≤ LS.length) (hn64 : n ≤ 64) {N : Nat} (hN : N ≤ 100000) {F : List Nat} (h : San w W p b lc LS N F) (kind owner x : Int) :
    Calls cx.P 10 #[.pointer (some ⟨p, 0, none⟩), .agg lc.toArray, .agg #[.int .i64 kind, .int .i64 owner, .int .i64 x]] W
      (Ret fun v W' => v = .int .i64 (doF from_ n LS kind owner x).1 ∧ ∃ F', San w W' p b lc (doF from_ n LS kind owner x).2 (N + 1200) F' ∧ Step W W' F F') := by
  obtain ⟨nev, hn, hq⟩ := h.mem
  refine (do_calls hq h.gl hl hfit kind owner x (by omega)).mono fun e W' ⟨v, he, hv, F', nev', hq', hs, hn'⟩ => ⟨v, he, hv, F', h.step (by omega) hq' hs, hs⟩

/-! The map of what is known -/

def kmap (l : List Nat) : Int → Option Value := fun k => if l.any (fun x : Nat => decide ((x : Int) = k)) then some (.int .i64 1) else none
def kmap2 (l all : List Nat) : Int → Option Value := fun k => if l.any (fun x : Nat => decide ((x : Int) = k)) then some (.int .i64 0) else kmap all k

theorem kmap_in {l : List Nat} {x : Nat} (h : x ∈ l) : kmap l (x : Int) = some (.int .i64 1) := by
  unfold kmap
  rw [if_pos (List.any_eq_true.2 ⟨x, h, by simp⟩)]
theorem kmap_out {l : List Nat} {x : Nat} (h : x ∉ l) : kmap l (x : Int) = none := by
  unfold kmap
  rw [if_neg]
  intro hh
  obtain ⟨y, hy, he⟩ := List.any_eq_true.1 hh
  have : y = x := Int.ofNat.inj (of_decide_eq_true he)
  exact h (this ▸ hy)
theorem kmap_set (l : List Nat) (x : Nat) : setM (kmap l) (x : Int) (.int .i64 1) = kmap (l ++ [x]) := by
  funext k
  unfold setM kmap
  simp only [List.any_append, List.any_cons, List.any_nil, Bool.or_false]
  by_cases hk : k = (x : Int)
  · rw [if_pos hk, hk]; simp
  · rw [if_neg hk]
    have : ¬ (x : Int) = k := fun e => hk e.symm
    simp [this]
theorem kmap2_in {l all : List Nat} {x : Nat} (h : x ∈ l) : kmap2 l all (x : Int) = some (.int .i64 0) := by
  unfold kmap2
  rw [if_pos (List.any_eq_true.2 ⟨x, h, by simp⟩)]
theorem kmap2_out {l all : List Nat} {x : Nat} (h : x ∉ l) : kmap2 l all (x : Int) = kmap all (x : Int) := by
  unfold kmap2
  rw [if_neg]
  intro hh
  obtain ⟨y, hy, he⟩ := List.any_eq_true.1 hh
  have : y = x := Int.ofNat.inj (of_decide_eq_true he)
  exact h (this ▸ hy)
theorem kmap2_set (l all : List Nat) (x : Nat) : setM (kmap2 l all) (x : Int) (.int .i64 0) = kmap2 (l ++ [x]) all := by
  funext k
  unfold setM kmap2
  simp only [List.any_append, List.any_cons, List.any_nil, Bool.or_false]
  by_cases hk : k = (x : Int)
  · rw [if_pos hk, hk]; simp
  · rw [if_neg hk]
    have : ¬ (x : Int) = k := fun e => hk e.symm
    simp [this]

theorem zero_int : ((cx.P.info? 3).bind fun i => i.zero) = some (.int .i64 0) := by kernel_rfl

theorem look_ii {W : World} {b : Nat} {m : Int → Option Value} (h : IM W b m) (k : Int) {K : Value → World → Prop} (c : Int) (hc : m k = some (.int .i64 c) ∨ (m k = none ∧ c = 0)) (hK : K (.int .i64 c) W) : RunV cx.P (Instr.lookup 51 (.map (some b)) (.int .i64 k) false) W K :=
  map_lookup cx_ok (x := ⟨1, 8, false, [.map none], .map 3 3⟩) rfl rfl rfl rfl zero_int h k false
    (fun v hv => by
      rcases hc with hc | ⟨hc, _⟩
      · rw [hc] at hv; cases hv; exact hK
      · rw [hc] at hv; cases hv)
    (fun hn => by
      rcases hc with hc | ⟨_, rfl⟩
      · rw [hc] at hn; cases hn
      · exact hK)

theorem upd_ii {W : World} {b : Nat} {m : Int → Option Value} (h : IM W b m) (k c : Int) {K : World → Prop} (hK : ∀ o W', Upd W b o W' → IM W' b (setM m k (.int .i64 c)) → K W') : RunU cx.P (Instr.mapUpdate 51 (.map (some b)) (.int .i64 k) (.int .i64 c)) W K :=
  map_update cx_ok (x := ⟨1, 8, false, [.map none], .map 3 3⟩) rfl rfl rfl rfl h k _ hK

end

end Go.Proofs.YtlfolinjajjgjaaDoor
