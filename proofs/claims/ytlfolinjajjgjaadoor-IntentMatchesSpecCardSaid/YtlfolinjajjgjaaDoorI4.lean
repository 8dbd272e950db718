/- intent on a quiet memory: Stamp, Close; Lost, Blocks. -/
import Derived.Test.YtlfolinjajjgjaaDoorI3
namespace Go.Proofs.YtlfolinjajjgjaaDoor
open Go.E

section
variable {w : World}

/-- The contract of a function that 'each' calls. -/
def DoC (p from_ : Nat) (prs : List (Nat × Nat)) (boxes : List (Nat × List Value × Nat)) (f : Nat) (cap : List Value) : Prop :=
  ∀ W LS' nev' F' slot ws, QMem W p LS' nev' F' → Gl W → (∀ x ∈ boxes, Blk W x.1 x.2.1 x.2.2 ∧ x.1 ∉ F') → LS'[from_ + slot]? = some ws → nev' ≤ 549755813000 →
      Calls cx.P f ([Value.int .i64 (slot : Nat)] ++ cap).toArray W (Ret fun _ W' => ∃ F'', QMem W' p (LS'.set (from_ + slot) (lay ws prs)) (nev' + prs.length + 2) F'' ∧ Step W W' F' F'')

theorem Stamp1_calls {p from_ n : Nat} {lc : List Value} (hl : LayC lc from_ n) (st : Nat) (hst : st < 2 ^ 40) (b4 b5 b7 : Nat) :
    DoC p from_ [(1, st)] [(b4, [.pointer (some ⟨p, 0, none⟩)], 23), (b5, lc, 27), (b7, [.int .i64 (st : Nat)], 3)] 52 [.pointer (some ⟨b4, 0, none⟩), .pointer (some ⟨b5, 0, none⟩), .pointer (some ⟨b7, 0, none⟩)] := by
  intro W LS nev F slot ws h hg hb hws hnev
  have B4 := (hb (b4, [.pointer (some ⟨p, 0, none⟩)], 23) (by simp)).1
  have B5 := (hb (b5, lc, 27) (by simp)).1
  have B7 := (hb (b7, [.int .i64 (st : Nat)], 3) (by simp)).1
  refine calls_body cx_ok (args := [.int .i64 (slot : Nat), .pointer (some ⟨b4, 0, none⟩), .pointer (some ⟨b5, 0, none⟩), .pointer (some ⟨b7, 0, none⟩)]) Tryd.func52 rfl 12 rfl rfl [] rfl ?_
  refine ⟨_, B4.cell rfl, lc, B5.all, hl.len, _, B7.cell rfl, _, rfl, _, rfl, fun g W1 n1 => ?_⟩
  have e1 := n1.num; have z1 := n1.size
  have hc : Cells W1 g 0 (pcells [(1, st)]) := n1.blk.all
  refine call (set_calls (h.ext n1.tr) (hg.ext n1.tr) lc from_ slot hl.len hl.c3 hws [(1, st)] (by simp; omega) g 0 1 hc (fun hm => by have := h.lt g hm; omega) (by omega) (by show 1 ≤ 4096; decide) (by show nev + 1 + 2 ≤ _; omega)) ?_
  rintro _ W2 ⟨F2, hQ, hs⟩
  exact ⟨F2, hQ, Step.of_ext n1.tr hs⟩

theorem Close1_calls {p from_ n : Nat} {lc : List Value} (hl : LayC lc from_ n) (b3 b4 : Nat) :
    DoC p from_ [(0, 0)] [(b3, [.pointer (some ⟨p, 0, none⟩)], 23), (b4, lc, 27)] 53 [.pointer (some ⟨b3, 0, none⟩), .pointer (some ⟨b4, 0, none⟩)] := by
  intro W LS nev F slot ws h hg hb hws hnev
  have B3 := (hb (b3, [.pointer (some ⟨p, 0, none⟩)], 23) (by simp)).1
  have B4 := (hb (b4, lc, 27) (by simp)).1
  refine calls_body cx_ok (args := [.int .i64 (slot : Nat), .pointer (some ⟨b3, 0, none⟩), .pointer (some ⟨b4, 0, none⟩)]) Tryd.func53 rfl 10 rfl rfl [] rfl ?_
  refine ⟨_, B3.cell rfl, lc, B4.all, hl.len, _, rfl, _, rfl, fun g W1 n1 => ?_⟩
  have e1 := n1.num; have z1 := n1.size
  have hc : Cells W1 g 0 (pcells [(0, 0)]) := n1.blk.all
  refine call (set_calls (h.ext n1.tr) (hg.ext n1.tr) lc from_ slot hl.len hl.c3 hws [(0, 0)] (by simp) g 0 1 hc (fun hm => by have := h.lt g hm; omega) (by omega) (by show 1 ≤ 4096; decide) (by show nev + 1 + 2 ≤ _; omega)) ?_
  rintro _ W2 ⟨F2, hQ, hs⟩
  exact ⟨F2, hQ, Step.of_ext n1.tr hs⟩

/-- What Close returns and leaves. -/
def closeF (from_ n : Nat) (LS : List (List Nat)) (owner : Int) : Int × List (List Nat) :=
  (if (slotsN LS from_ n).any (fun s => decide ((s.owner : Int) = owner)) then 0 else 5, eachF from_ owner [(0, 0)] LS (slotsN LS from_ n))
def stampF (from_ n : Nat) (LS : List (List Nat)) (owner stamp : Int) : Int × List (List Nat) :=
  if stamp < 1 ∨ 1073741824 < stamp then (1, LS)
  else (if (slotsN LS from_ n).any (fun s => decide ((s.owner : Int) = owner)) then 0 else 5, eachF from_ owner [(1, stamp.toNat)] LS (slotsN LS from_ n))

theorem Close_calls {p nev : Nat} {LS : List (List Nat)} {F : List Nat} (h : QMem w p LS nev F) (hg : Gl w) {lc : List Value} {from_ n : Nat} (hl : LayC lc from_ n) (hfit : from_ + n ≤ LS.length) (owner : Int) (hnev : nev ≤ 274877906944) :
    Calls cx.P 30 #[.pointer (some ⟨p, 0, none⟩), .agg lc.toArray, .int .i64 owner] w
      (Ret fun v w' => v = .int .i64 (closeF from_ n LS owner).1 ∧ ∃ F' nev', QMem w' p (closeF from_ n LS owner).2 nev' F' ∧ Step w w' F F' ∧ nev' ≤ nev + n * 18) := by
  refine calls_body cx_ok (args := [.pointer (some ⟨p, 0, none⟩), .agg lc.toArray, .int .i64 owner]) Tryd.func30 rfl 12 rfl rfl [.tmp 6] rfl ?_
  intro b3 w1 n1 b4 w2 n2
  have e1 := n1.num; have e2 := n2.num; have z1 := n1.size
  have t2 : Tr [] w w2 := n1.tr.ext n2.tr
  have B3 : Blk w2 b3 [.pointer (some ⟨p, 0, none⟩)] 23 := (show Blk w1 b3 _ _ from n1.blk).ext n2.tr
  have B4 : Blk w2 b4 lc 27 := n2.blk
  have hnF : ∀ b, w.heap.size ≤ b → b ∉ F := fun b hb hm => by have := h.lt b hm; omega
  refine ⟨_, B3.cell rfl, lc, B4.all, hl.len, ?_⟩
  refine call (each_calls (h.ext t2) (hg.ext t2) hl hfit owner [(0, 0)] (by decide) hnev 53 [.pointer (some ⟨b3, 0, none⟩), .pointer (some ⟨b4, 0, none⟩)] rfl
    [(b3, [.pointer (some ⟨p, 0, none⟩)], 23), (b4, lc, 27)] (fun x hx => ?_) (Close1_calls hl b3 b4)) ?_
  · simp only [List.mem_cons, List.not_mem_nil, or_false] at hx
    rcases hx with rfl | rfl
    · exact ⟨B3, hnF _ (by show _ ≤ b3; omega)⟩
    · exact ⟨B4, hnF _ (by show _ ≤ b4; omega)⟩
  rintro _ w3 ⟨rfl, F', nev', hQ, hs, hn⟩
  exact ⟨rfl, F', nev', hQ, Step.of_ext t2 hs, hn⟩

theorem Stamp_calls {p nev : Nat} {LS : List (List Nat)} {F : List Nat} (h : QMem w p LS nev F) (hg : Gl w) {lc : List Value} {from_ n : Nat} (hl : LayC lc from_ n) (hfit : from_ + n ≤ LS.length) (owner stamp : Int) (hnev : nev ≤ 274877906944) :
    Calls cx.P 27 #[.pointer (some ⟨p, 0, none⟩), .agg lc.toArray, .int .i64 owner, .int .i64 stamp] w
      (Ret fun v w' => v = .int .i64 (stampF from_ n LS owner stamp).1 ∧ ∃ F' nev', QMem w' p (stampF from_ n LS owner stamp).2 nev' F' ∧ Step w w' F F' ∧ nev' ≤ nev + n * 18) := by
  refine calls_body cx_ok (args := [.pointer (some ⟨p, 0, none⟩), .agg lc.toArray, .int .i64 owner, .int .i64 stamp]) Tryd.func27 rfl 31 rfl rfl [.tmp 8] rfl ?_
  intro b4 w1 n1 b5 w2 n2 b7 w3 n3
  have e1 := n1.num; have e2 := n2.num; have e3 := n3.num; have z1 := n1.size; have z2 := n2.size
  have t3 : Tr [] w w3 := (n1.tr.ext n2.tr).ext n3.tr
  have B4 : Blk w3 b4 [.pointer (some ⟨p, 0, none⟩)] 23 := (show Blk w1 b4 _ _ from n1.blk).ext (n2.tr.ext n3.tr)
  have B5 : Blk w3 b5 lc 27 := (show Blk w2 b5 lc _ from n2.blk).ext n3.tr
  have B7 : Blk w3 b7 [.int .i64 stamp] 3 := n3.blk
  have hnF : ∀ b, w.heap.size ≤ b → b ∉ F := fun b hb hm => by have := h.lt b hm; omega
  -- a stamp that is none
  have bad : (stamp < 1 ∨ 1073741824 < stamp) → ∀ K : Value → World → Prop, (∀ sv W, Tr [] w W → K (.tuple #[sv, .int .i64 0]) W) → CallP cx.P 11 #[.pointer (some ⟨p, 0, none⟩), .agg lc.toArray] w3 K := by
    intro _ K hK
    refine call (QRead_calls (h.ext t3) (hg.ext t3) hl hfit) ?_
    rintro _ W ⟨t, sv, Z, rfl, _⟩
    exact hK sv W (t3.ext t)
  refine ⟨_, B7.cell rfl, fun h1 => ?_, fun h1 => ⟨_, B7.cell rfl, fun h2 => ?_, fun h2 => ?_⟩⟩
  · refine ⟨_, B4.cell rfl, lc, B5.all, hl.len, ?_⟩
    refine bad (.inl h1) _ fun sv W t => ?_
    refine ⟨fun _ => ?_, fun h => absurd rfl h⟩
    have hst : stampF from_ n LS owner stamp = (1, LS) := by unfold stampF; rw [if_pos (.inl h1)]
    rw [hst]
    exact ⟨rfl, F, nev, h.ext t, ⟨t.of_ext, fun b hb => .inl hb⟩, by omega⟩
  · refine ⟨_, B4.cell rfl, lc, B5.all, hl.len, ?_⟩
    refine bad (.inr h2) _ fun sv W t => ?_
    refine ⟨fun _ => ?_, fun h => absurd rfl h⟩
    have hst : stampF from_ n LS owner stamp = (1, LS) := by unfold stampF; rw [if_pos (.inr h2)]
    rw [hst]
    exact ⟨rfl, F, nev, h.ext t, ⟨t.of_ext, fun b hb => .inl hb⟩, by omega⟩
  · obtain ⟨st, rfl⟩ := Int.eq_ofNat_of_zero_le (show 0 ≤ stamp by omega)
    have hst : stampF from_ n LS owner (st : Nat) = (if (slotsN LS from_ n).any (fun s => decide ((s.owner : Int) = owner)) then 0 else 5, eachF from_ owner [(1, st)] LS (slotsN LS from_ n)) := by
      unfold stampF
      rw [if_neg (by omega)]
      rfl
    rw [hst]
    refine ⟨_, B4.cell rfl, lc, B5.all, hl.len, ?_⟩
    refine call (each_calls (h.ext t3) (hg.ext t3) hl hfit owner [(1, st)] (by show 1 ≤ 16; decide) hnev 52 [.pointer (some ⟨b4, 0, none⟩), .pointer (some ⟨b5, 0, none⟩), .pointer (some ⟨b7, 0, none⟩)] rfl
      [(b4, [.pointer (some ⟨p, 0, none⟩)], 23), (b5, lc, 27), (b7, [.int .i64 (st : Nat)], 3)] (fun x hx => ?_) (Stamp1_calls hl st (by omega) b4 b5 b7)) ?_
    · simp only [List.mem_cons, List.not_mem_nil, or_false] at hx
      rcases hx with rfl | rfl | rfl
      · exact ⟨B4, hnF _ (by show _ ≤ b4; omega)⟩
      · exact ⟨B5, hnF _ (by show _ ≤ b5; omega)⟩
      · exact ⟨B7, hnF _ (by show _ ≤ b7; omega)⟩
    rintro _ w4 ⟨rfl, F', nev', hQ, hs, hn⟩
    exact ⟨rfl, F', nev', hQ, Step.of_ext t3 hs, hn⟩

end

end Go.Proofs.YtlfolinjajjgjaaDoor
