/- Part 5 of the proof: R0 -/
import Derived.Test.YtlfolinjajjgjaaDoorZR42
import Derived.Test.YtlfolinjajjgjaaDoorTie
import Derived.Test.YtlfolinjajjgjaaDoorCards
import Derived.ProofKit
import Derived.LaidMore
import Derived.LaidLaws
import Derived.LaidHandle
import Derived.Lay
import Derived.Lib.LaidTab
import Derived.Lib.LaidU8
import Derived.SevenTiedAt
import Derived.Stop.Joined

/- From a row's conditions to what the walks ask. -/
namespace Go.Proofs.YtlfolinjajjgjaaDoor
open Go.E Go.ChangeShapes Go.WideShapes Go.ChangeAt Go.RowKit

def seatLaid : List (String × DataW Unit) := [("alum/pointer.pointers", Rows.laid_alum_pointer_pointers), ("math/bits.deBruijn32tab", Rows.laid_math_bits_deBruijn32tab), ("math/bits.deBruijn64tab", Rows.laid_math_bits_deBruijn64tab)]

theorem seatOwn : ownKnob Tryd.prog.godebug = none := by kernel_rfl
theorem seatLaidOut : laidOutB Tryd.prog = true := by kernel_rfl

theorem cell_at {W : World} {n : String} {g : Nat} {cs : Array Value} (hg : Tryd.prog.globalNamed n = some g) (hv : W.var? Tryd.prog n = some cs) : Cells W g 0 cs.toList := fun i v hi => by
  rw [Nat.zero_add, World.var?_cell hg hv i]
  simpa using hi

def isI64 (P : Program) (t : Nat) : Bool := match P.underlying t with
  | some (.int k) => decide (k = .i64)
  | _ => false
theorem isI64_eq {P : Program} {t : Nat} (h : isI64 P t = true) : P.underlying t = some (.int .i64) := by
  unfold isI64 at h
  split at h
  · rename_i k hk
    rw [hk, of_decide_eq_true h]
  · cases h
def structB (P : Program) (t n : Nat) : Bool := match P.underlying t with
  | some (.struct fs) => Nat.beq fs.size n && fs.toList.zipIdx.all fun x => isI64 P x.1.type && (Nat.beq x.1.offset x.2 && Nat.beq (P.cellsOf x.1.type) 1)
  | _ => false
theorem structB_eq {P : Program} {t n : Nat} (h : structB P t n = true) : ∃ fs, P.underlying t = some (.struct fs) ∧ fs.size = n ∧ ∀ (i : Nat) (f : Field), fs[i]? = some f → P.underlying f.type = some (.int .i64) ∧ f.offset = i ∧ P.cellsOf f.type = 1 := by
  unfold structB at h
  split at h
  · rename_i fs hfs
    simp only [Bool.and_eq_true] at h
    refine ⟨fs, hfs, Nat.eq_of_beq_eq_true h.1, fun i f hf => ?_⟩
    have hm : (f, i) ∈ fs.toList.zipIdx := by
      rw [List.mem_zipIdx_iff_getElem?]
      simpa using hf
    have := List.all_eq_true.1 h.2 _ hm
    simp only [Bool.and_eq_true] at this
    exact ⟨isI64_eq this.1, Nat.eq_of_beq_eq_true this.2.1, Nat.eq_of_beq_eq_true this.2.2⟩
  · cases h

theorem laid_cells {W : World} (h : laidMetH Tryd.prog seatLaid W) : Cells W 0 0 [.int .i64 0, .int .i64 12, .int .i64 12, .int .i64 20] ∧ Cells W 2 0 (tab64.map fun n : Nat => .int .u8 (n : Int)) := by
  rw [MakeChecks.laidMetH_plain _ _ _ (by kernel_rfl)] at h
  refine ⟨?_, ?_⟩
  · obtain ⟨g, t, cs, fuel, p, hg, ht, hv, hd⟩ := Lib.laidMet.reads h (List.mem_cons_self)
    obtain rfl := Option.some.inj ((show Tryd.prog.globalNamed "alum/pointer.pointers" = some 0 by kernel_rfl).symm.trans hg)
    obtain rfl := Option.some.inj ((show (Tryd.prog.globals[0]?).map (·.type) = some 130 by kernel_rfl).symm.trans ht)
    have hc := cell_at hg hv
    have hu : Tryd.prog.underlying 130 = some (.array 2 129) := by kernel_rfl
    have hco : Tryd.prog.cellsOf 129 = 2 := by kernel_rfl
    have el : ∀ (i : Nat) (zs : List Int), i < 2 → ([(DataW.agg [.lit (.int .i64 0), .lit (.int .i64 12)] : DataW Unit), .agg [.lit (.int .i64 12), .lit (.int .i64 20)]])[i]? = some (.agg (zs.map fun z => .lit (.int .i64 z))) → (cs.toList.drop (i * 2)).take 2 = zs.map fun z => Value.int .i64 z := by
      intro i zs hi hz
      obtain ⟨f', d, q, h1, h2⟩ := Lib.array_elem hu hd i hi
      rw [hz] at h1
      obtain rfl := Option.some.inj h1
      rw [hco] at h2
      obtain ⟨fs, hfs, hfo, hff⟩ := structB_eq (show structB Tryd.prog 129 2 = true by kernel_rfl)
      exact Lib.ints_of_struct hfs hff (by rw [hco, hfo]) h2
    have e0 := el 0 [0, 12] (by decide) rfl
    have e1 := el 1 [12, 20] (by decide) rfl
    intro i v hi
    have hi4 : i < 4 := by
      have := (List.getElem?_eq_some_iff.1 hi).1
      simpa using this
    refine hc i v ?_
    rcases i with _ | _ | _ | _ | i
    · have := congrArg (·[0]?) e0
      simp at this hi
      subst hi
      simpa using this
    · have := congrArg (·[1]?) e0
      simp [List.getElem?_take] at this hi
      subst hi
      simpa using this
    · have := congrArg (·[0]?) e1
      simp [List.getElem?_take, List.getElem?_drop] at this hi
      subst hi
      simpa using this
    · have := congrArg (·[1]?) e1
      simp [List.getElem?_take, List.getElem?_drop] at this hi
      subst hi
      simpa using this
    · omega
  · obtain ⟨g, t, cs, fuel, p, hg, ht, hv, hd⟩ := Lib.laidMet.reads h (n := "math/bits.deBruijn64tab") (d := Rows.laid_math_bits_deBruijn64tab) (.tail _ (.tail _ (.head _)))
    obtain rfl := Option.some.inj ((show Tryd.prog.globalNamed "math/bits.deBruijn64tab" = some 2 by kernel_rfl).symm.trans hg)
    obtain rfl := Option.some.inj ((show (Tryd.prog.globals[2]?).map (·.type) = some 150 by kernel_rfl).symm.trans ht)
    have hc := cell_at hg hv
    have hz := Lib.cells_of_tab (e := 5) (n := 64) (k := .u8) (zs := tab64.map fun n : Nat => (n : Int)) (by kernel_rfl) (by kernel_rfl) (by kernel_rfl) (by kernel_rfl) hd
    rw [hz] at hc
    have : (tab64.map fun n : Nat => (n : Int)).map (fun z => Value.int .u8 z) = tab64.map fun n : Nat => .int .u8 (n : Int) := by rw [List.map_map]; rfl
    rw [this] at hc
    exact hc

theorem gl_of_laid {W : World} (h : laidMetH Tryd.prog seatLaid W) : Gl W := by
  obtain ⟨h1, h2⟩ := laid_cells h
  have := cell_lt (h2 0 (.int .u8 0) rfl)
  exact ⟨h1, h2, by omega⟩

theorem below_of_tr {W W' : World} (t : Tr [] W W') : Below W.heap.size W W' := ⟨t.os, t.tape, t.out, t.size, fun k hk => t.keep k hk (by simp)⟩

theorem kept_of_tr {W W' : World} (t : Tr [] W W') (may : MemPlace → Prop) : W.keptBut W' may := by
  refine ⟨t.os, t.out, fun i hi => ?_⟩
  rw [t.keep i hi (by simp)]
  split
  · rename_i h1 h2
    rw [h1] at h2
    cases h2
    exact ⟨rfl, rfl, rfl, fun _ _ => rfl⟩
  · rename_i h1 h2
    rw [h1] at h2
    cases h2
    exact .inr ⟨rfl, rfl⟩
  · rfl

set_option maxRecDepth 100000 in
/-- A list of calls that came in. -/
theorem open_ops {H : Type} {enc : TypeId × Value → H} {W : World} {sp : Nat → Bool} {held : Bool} {v : Value} {d : DataW H} {ps : List MemPlace} {r : Reach} {b0 : Nat} (hval : Value.okWide Tryd.prog W r b0 22 v)
    (hd : DataW.Trod enc Tryd.prog W 0 sp held 22 v d ps) : ∃ ops, OpsR W v ops := by
  have hu : Tryd.prog.underlying 22 = some (.slice 31) := by kernel_rfl
  obtain ⟨a0, l0, c0, rfl⟩ := okWide_slice hu hval
  obtain ⟨fuel, hf⟩ := hd
  rcases DataW.trod_slice hu hf with ⟨hcs, _⟩ | ⟨a, len, cap, elems, rest, n, _, hcs, _, _, _, _, hlen, hel, _⟩
  · refine ⟨[], a0, c0, ?_, .inl rfl⟩
    simp [Value.cells] at hcs
    obtain ⟨rfl, rfl, rfl⟩ := hcs
    rfl
  · simp [Value.cells] at hcs
    obtain ⟨rfl, rfl, rfl⟩ := hcs
    have hco : Tryd.prog.cellsOf 31 = 3 := by kernel_rfl
    obtain ⟨fs, hfs, hfo, hff⟩ := structB_eq (show structB Tryd.prog 31 3 = true by kernel_rfl)
    have key : ∀ i, i < l0 → ∃ x : Int × Int × Int, ∀ j v, ([Value.int .i64 x.1, .int .i64 x.2.1, .int .i64 x.2.2] : List Value)[j]? = some v → W.cell? ((a.add (i * 3)).add j) = some v := by
      intro i hi
      have h1 := hel i hi
      rw [hco] at h1
      have hi' : i < elems.length := by omega
      rw [List.getElem?_eq_getElem hi'] at h1
      obtain ⟨cs, hcs, htr⟩ := Option.bind_eq_some_iff.1 h1
      obtain ⟨_, hl3, hcells⟩ := World.cells?_some hcs
      obtain ⟨xs, m, _, _, hlc, hxl, hall⟩ := DataW.trod_struct hfs htr
      have hint : ∀ j, j < 3 → ∃ z : Int, cs[j]? = some (.int .i64 z) := by
        intro j hj
        have hjf : j < fs.size := by omega
        have this := hff j fs[j] (by simp [hjf])
        have h2 := hall j fs[j] (by simp [hjf])
        obtain ⟨b, hb⟩ : ∃ b, xs[j]? = some b := ⟨xs[j]'(by omega), List.getElem?_eq_getElem (by omega)⟩
        rw [hb, this.2.1, this.2.2] at h2
        obtain ⟨z, hcz, _, _⟩ := DataW.trod_int this.1 h2
        refine ⟨z, ?_⟩
        have := congrArg (·[0]?) hcz
        simpa [List.getElem?_take, List.getElem?_drop] using this
      obtain ⟨z0, h0⟩ := hint 0 (by decide)
      obtain ⟨z1, h1⟩ := hint 1 (by decide)
      obtain ⟨z2, h2⟩ := hint 2 (by decide)
      refine ⟨(z0, z1, z2), fun j v hj => ?_⟩
      have hj3 : j < 3 := by have := (List.getElem?_eq_some_iff.1 hj).1; simpa using this
      rw [hcells j hj3]
      rcases j with _ | _ | _ | j
      · rw [h0]; simpa using hj
      · rw [h1]; simpa using hj
      · rw [h2]; simpa using hj
      · omega
    by_cases h0 : l0 = 0
    · subst h0
      exact ⟨[], some a, c0, rfl, .inl rfl⟩
    · obtain ⟨x0, hx0⟩ := key 0 (by omega)
      have hspot : a.spot = none := by
        have := hx0 0 _ rfl
        obtain ⟨b, o, sp⟩ := a
        simp only [Nat.zero_mul] at this
        have e : (Addr.add (Addr.add ⟨b, o, sp⟩ 0) 0) = ⟨b, o, sp⟩ := by unfold Addr.add; simp
        rw [e] at this
        exact Go.Proofs.cell_spot this
      obtain ⟨b, o, sp⟩ := a
      simp only at hspot
      subst hspot
      let ops : List (Int × Int × Int) := (List.range l0).map fun i => if h : i < l0 then (key i h).choose else (0, 0, 0)
      have hol : ops.length = l0 := by simp [ops]
      refine ⟨ops, some ⟨b, o, none⟩, c0, by rw [hol], .inr ⟨b, o, rfl, fun i x hx => ?_⟩⟩
      have hi : i < l0 := by rw [← hol]; exact (List.getElem?_eq_some_iff.1 hx).1
      have hxe : x = (key i hi).choose := by
        have : ops[i]? = some (key i hi).choose := by simp [ops, hi]
        rw [this] at hx
        exact (Option.some.inj hx).symm
      intro j v hv
      have := (key i hi).choose_spec j v (by rw [← hxe]; exact hv)
      rw [add_none, add_none] at this
      exact this

end Go.Proofs.YtlfolinjajjgjaaDoor
