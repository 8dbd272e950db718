/- The specification of the slots: Owns, Has, vacant. -/
import Derived.Test.YtlfolinjajjgjaaDoorN2
namespace Go.Proofs.YtlfolinjajjgjaaDoor
open Go.E

section
variable {w : World}

theorem Owns_calls (S : List Sl) (s : Value) (hs : SlR w s S) (owner : Int) :
    Calls cx.P 54 #[s, .int .i64 owner] w (Ret fun v w' => v = .bool (S.any fun s => decide ((s.owner : Int) = owner)) ∧ w = w') := by
  obtain ⟨a, c, rfl, hn, hs⟩ := hs
  refine calls_body cx_ok (args := [.slice a S.length c, .int .i64 owner]) Tryd.func54 rfl 19 rfl rfl [.tmp 4] rfl ?_
  refine loop_rule cx_ok (fun k W => k ≤ S.length ∧ w = W ∧ ∀ i s, i < k → S[i]? = some s → ¬ (s.owner : Int) = owner) (fun k : Nat => [(0, .slice a S.length c), (1, .int .i64 owner), (5, .int .i64 k)]) (fun k => S.length - k) 0 ⟨rfl, rfl, rfl, trivial⟩ ⟨by omega, rfl, fun i s hi => by omega⟩ ?_
  rintro k _ ⟨hk, rfl, hno⟩
  refine ⟨fun hlt => ?_, fun hge => ?_⟩
  · have hkx : k < S.length := by omega
    obtain ⟨g, o, rfl, hc⟩ := hs.resolve_left (fun hh => by have := hh.2; omega)
    have hsk : S[k]? = some S[k] := List.getElem?_eq_getElem hkx
    obtain ⟨_, bv, h1, _⟩ := hc k _ hsk
    have c1 : w.cell? ⟨g, o + k * 4 + 1, none⟩ = some (.int .i64 (S[k].owner : Nat)) := h1 1 _ rfl
    refine ⟨k, rfl, hkx, _, c1, fun he => ?_, fun hne => ?_⟩
    · refine ⟨?_, rfl⟩
      have : (S.any fun s => decide ((s.owner : Int) = owner)) = true := List.any_eq_true.2 ⟨_, List.getElem_mem hkx, decide_eq_true he⟩
      rw [this]; rfl
    · refine ⟨((k + 1 : Nat) : Int), by rw [w64 (by omega)]; omega, ?_⟩
      refine ⟨rfl, k + 1, ⟨rfl, rfl, rfl, trivial⟩, ⟨by omega, rfl, fun i s hi hs' => ?_⟩, by omega⟩
      by_cases hik : i = k
      · subst hik
        rw [hsk] at hs'
        obtain rfl := Option.some.inj hs'
        exact hne
      · exact hno i s (by omega) hs'
  · refine ⟨?_, rfl⟩
    have : (S.any fun s => decide ((s.owner : Int) = owner)) = false := by
      rw [List.any_eq_false]
      intro s hs' he
      obtain ⟨i, hi⟩ := List.mem_iff_getElem?.1 hs'
      have := (List.getElem?_eq_some_iff.1 hi).1
      exact hno i s (by omega) hi (of_decide_eq_true he)
    rw [this]; rfl

theorem Has_calls (S : List Sl) (s : Value) (hs : SlR w s S) (x : Int) :
    Calls cx.P 55 #[s, .int .i64 x] w (Ret fun v w' => v = .bool (twiceA S x) ∧ w = w') := by
  obtain ⟨a, c, rfl, hn, hs⟩ := hs
  refine calls_body cx_ok (args := [.slice a S.length c, .int .i64 x]) Tryd.func55 rfl 33 rfl rfl [.tmp 4] rfl ?_
  refine loop_rule cx_ok (fun k W => k ≤ S.length ∧ w = W ∧ ∀ i s, i < k → S[i]? = some s → (s.blocks.any fun y : Nat => x == (y : Int)) = false) (fun k : Nat => [(0, .slice a S.length c), (1, .int .i64 x), (5, .int .i64 k)]) (fun k => S.length - k) 0 ⟨rfl, rfl, rfl, trivial⟩ ⟨by omega, rfl, fun i s hi => by omega⟩ ?_
  rintro k _ ⟨hk, rfl, hno⟩
  refine ⟨fun hlt => ?_, fun hge => ?_⟩
  · have hkx : k < S.length := by omega
    obtain ⟨g, o, rfl, hc⟩ := hs.resolve_left (fun hh => by have := hh.2; omega)
    obtain ⟨z, hz⟩ : ∃ z, z = S[k] := ⟨_, rfl⟩
    have hsk : S[k]? = some z := by rw [hz]; exact List.getElem?_eq_getElem hkx
    obtain ⟨hb, bv, h1, h2⟩ := hc k _ hsk
    obtain ⟨ab, cb, rfl, _, hbc⟩ := h2
    have c3 : w.cell? ⟨g, o + k * 4 + 3, none⟩ = some (.slice ab z.blocks.length cb) := h1 3 _ rfl
    refine loop_rule cx_ok (fun j W => j ≤ z.blocks.length ∧ w = W ∧ ∀ i y, i < j → z.blocks[i]? = some y → ¬ x = ((y : Nat) : Int)) (fun j : Nat => [(0, .slice (some ⟨g, o, none⟩) S.length c), (1, .int .i64 x), (5, .int .i64 k), (6, .int .i64 j)]) (fun j => z.blocks.length - j) 0 ⟨rfl, rfl, rfl, rfl, trivial⟩ ⟨by omega, rfl, fun i y hi => by omega⟩ ?_
    rintro j _ ⟨hj, rfl, hnj⟩
    refine ⟨k, rfl, hkx, _, c3, fun hjlt => ?_, fun hjge => ?_⟩
    · have hjl : j < z.blocks.length := by omega
      obtain ⟨g2, o2, rfl, hcc⟩ := hbc.resolve_left (fun hh => by have := hh.2; omega)
      have hxj : z.blocks[j]? = some z.blocks[j] := List.getElem?_eq_getElem hjl
      have hcell : w.cell? ⟨g2, o2 + j * 1, none⟩ = some (.int .i64 (z.blocks[j] : Nat)) := by rw [Nat.mul_one]; exact hcc j _ (icells_get hxj)
      refine ⟨k, rfl, hkx, _, c3, j, rfl, hjl, _, hcell, fun he => ?_, fun hne => ?_⟩
      · refine ⟨?_, rfl⟩
        have : twiceA S x = true := by
          unfold twiceA
          exact List.any_eq_true.2 ⟨z, List.mem_of_getElem? hsk, List.any_eq_true.2 ⟨z.blocks[j], List.getElem_mem hjl, by simpa using he.symm⟩⟩
        rw [this]; rfl
      · refine ⟨((j + 1 : Nat) : Int), by rw [w64 (by omega)]; omega, ?_⟩
        refine ⟨rfl, j + 1, ⟨rfl, rfl, rfl, rfl, trivial⟩, ⟨hjl, rfl, fun i y hi hy => ?_⟩, by omega⟩
        by_cases hij : i = j
        · subst hij
          rw [hxj] at hy
          obtain rfl := Option.some.inj hy
          exact fun e => hne e.symm
        · exact hnj i y (by omega) hy
    · refine ⟨((k + 1 : Nat) : Int), by rw [w64 (by omega)]; omega, ?_⟩
      refine ⟨rfl, k + 1, ⟨rfl, rfl, rfl, trivial⟩, ⟨by omega, rfl, fun i s hi hs' => ?_⟩, by omega⟩
      by_cases hik : i = k
      · subst hik
        rw [hsk] at hs'
        obtain rfl := Option.some.inj hs'
        rw [List.any_eq_false]
        intro y hy he
        obtain ⟨q, hq⟩ := List.mem_iff_getElem?.1 hy
        have := (List.getElem?_eq_some_iff.1 hq).1
        exact hnj q y (by omega) hq (by simpa using he)
      · exact hno i s (by omega) hs'
  · refine ⟨?_, rfl⟩
    have : twiceA S x = false := by
      unfold twiceA
      rw [List.any_eq_false]
      intro s hs' he
      obtain ⟨i, hi⟩ := List.mem_iff_getElem?.1 hs'
      have := (List.getElem?_eq_some_iff.1 hi).1
      rw [hno i s (by omega) hi] at he
      cases he
    rw [this]; rfl

def vacF (S : List Sl) (n : Nat) : Int := match (List.range n).find? (fun k : Nat => !usedA S (k : Int)) with
  | some k => (k : Int)
  | none => -1

theorem vacant_calls (S : List Sl) (s : Value) (hs : SlR w s S) (n : Nat) (hn64 : n ≤ 1048576) :
    Calls cx.P 77 #[s, .int .i64 (n : Nat)] w (Ret fun v w' => v = .int .i64 (vacF S n) ∧ w = w') := by
  obtain ⟨a, c, rfl, hn, hs⟩ := hs
  refine calls_body cx_ok (args := [.slice a S.length c, .int .i64 (n : Nat)]) Tryd.func77 rfl 32 rfl rfl [.tmp 4] rfl ?_
  refine loop_rule cx_ok (fun i W => i ≤ n ∧ w = W ∧ ∀ j, j < i → usedA S (j : Nat) = true) (fun i : Nat => [(0, .slice a S.length c), (1, .int .i64 n), (5, .int .i64 i)]) (fun i => n - i) 0 ⟨rfl, rfl, rfl, trivial⟩ ⟨by omega, rfl, fun j hj => by omega⟩ ?_
  rintro i _ ⟨hi, rfl, hu⟩
  refine ⟨fun hlt => ?_, fun hge => ?_⟩
  · have hin : i < n := by omega
    refine loop_rule cx_ok (fun k W => k ≤ S.length ∧ w = W) (fun k : Nat => [(0, .slice a S.length c), (1, .int .i64 n), (5, .int .i64 i), (6, .bool (usedA (S.take k) (i : Nat))), (7, .int .i64 k)]) (fun k => S.length - k) 0 ⟨rfl, rfl, rfl, rfl, rfl, trivial⟩ ⟨by omega, rfl⟩ ?_
    rintro k _ ⟨hk, rfl⟩
    refine ⟨fun hlt2 => ?_, fun hge2 => ?_⟩
    · have hkx : k < S.length := by omega
      obtain ⟨g, o, rfl, hc⟩ := hs.resolve_left (fun hh => by have := hh.2; omega)
      have hsk : S[k]? = some S[k] := List.getElem?_eq_getElem hkx
      obtain ⟨_, bv, h1, _⟩ := hc k _ hsk
      have c0 : w.cell? ⟨g, o + k * 4 + 0, none⟩ = some (.int .i64 (S[k].slot : Nat)) := h1 0 _ rfl
      have hst : usedA (S.take (k + 1)) (i : Nat) = (usedA (S.take k) (i : Nat) || decide ((S[k].slot : Int) = (i : Nat))) := by
        unfold usedA
        rw [List.take_succ_eq_append_getElem hkx]
        simp only [List.any_append, List.any_cons, List.any_nil, Bool.or_false]
      have hw : IntKind.i64.wrap ((k : Int) + 1) = ((k + 1 : Nat) : Int) := by rw [w64 (by omega)]; omega
      have hsub : ∀ b : Bool, usedA (S.take (k + 1)) (i : Nat) = b → some (Value.bool b) = some (Value.bool (usedA (S.take (k + 1)) (i : Nat))) := fun b hb => by rw [hb]
      cases hu0 : usedA (S.take k) (i : Nat) with
      | true =>
        rw [hu0, Bool.true_or] at hst
        exact ⟨_, hw, rfl, k + 1, ⟨rfl, rfl, rfl, hsub _ hst, rfl, trivial⟩, ⟨hkx, rfl⟩, by omega⟩
      | false =>
        rw [hu0, Bool.false_or] at hst
        refine ⟨k, rfl, hkx, _, c0, fun he => ?_, fun hne => ?_⟩
        · rw [decide_eq_true he] at hst
          exact ⟨_, hw, rfl, k + 1, ⟨rfl, rfl, rfl, hsub _ hst, rfl, trivial⟩, ⟨hkx, rfl⟩, by omega⟩
        · rw [decide_eq_false hne] at hst
          exact ⟨_, hw, rfl, k + 1, ⟨rfl, rfl, rfl, hsub _ hst, rfl, trivial⟩, ⟨hkx, rfl⟩, by omega⟩
    · obtain rfl : k = S.length := by omega
      cases hu0 : usedA (S.take S.length) (i : Nat) with
      | true =>
        rw [List.take_length] at hu0
        refine ⟨((i + 1 : Nat) : Int), by rw [w64 (by omega)]; omega, ?_⟩
        refine ⟨rfl, i + 1, ⟨rfl, rfl, rfl, trivial⟩, ⟨by omega, rfl, fun j hj => ?_⟩, by omega⟩
        by_cases hji : j = i
        · subst hji; exact hu0
        · exact hu j (by omega)
      | false =>
        rw [List.take_length] at hu0
        refine ⟨?_, rfl⟩
        have : (List.range n).find? (fun k : Nat => !usedA S (k : Int)) = some i := by
          rw [List.find?_eq_some_iff_append]
          refine ⟨by simp [hu0], List.range i, List.range' (i + 1) (n - i - 1), range_split i n hin, fun j hj => ?_⟩
          rw [hu j (List.mem_range.1 hj)]; rfl
        unfold vacF
        rw [this]
        rfl
  · obtain rfl : i = n := by omega
    refine ⟨?_, rfl⟩
    have : (List.range i).find? (fun k : Nat => !usedA S (k : Int)) = none := by
      rw [List.find?_eq_none]
      intro j hj
      rw [hu j (List.mem_range.1 hj)]
      simp
    unfold vacF
    rw [this]
    rfl

end

end Go.Proofs.YtlfolinjajjgjaaDoor
