/- Part 6 of the proof: R0 -/
import Derived.Test.YthepaakejpbppaaGreatDoorZ850f82dd
import Derived.Test.YthepaakejpbppaaGreatDoorTie
import Derived.Test.YthepaakejpbppaaGreatDoorCards
import Derived.ProofKit
import Derived.LaidMore
import Derived.LaidLaws
import Derived.LaidHandle
import Derived.Lay
import Derived.Lib.LaidTab
import Derived.Lib.LaidU8
import Derived.SevenTiedAt
import Derived.Stop.Joined

/- From a row's conditions to what the walks ask. -/
namespace Go.Proofs.YthepaakejpbppaaGreatDoor
open Go.E Go.ChangeShapes Go.WideShapes Go.ChangeAt Go.RowKit

def seatLaid : List (String × DataW Unit) := [("alum/pointer.pointers", Rows.laid_alum_pointer_pointers), ("alum/pointer.headers", Rows.laid_alum_pointer_headers), ("math/bits.deBruijn32tab", Rows.laid_math_bits_deBruijn32tab), ("math/bits.deBruijn64tab", Rows.laid_math_bits_deBruijn64tab)]

theorem seatOwn : ownKnob Tryz.prog.godebug = none := by kernel_rfl
theorem seatLaidOut : laidOutB Tryz.prog = true := by kernel_rfl

theorem cell_at {W : World} {n : String} {g : Nat} {cs : Array Value} (hg : Tryz.prog.globalNamed n = some g) (hv : W.var? Tryz.prog n = some cs) : Cells W g 0 cs.toList := fun i v hi => by
  rw [Nat.zero_add, World.var?_cell hg hv i]
  simpa using hi

def isI64 (P : Program) (t : Nat) : Bool := match P.underlying t with
  | some (.int k) => decide (k = .i64)
  | _ => false
theorem isI64_eq {P : Program} {t : Nat} (h : isI64 P t = true) : P.underlying t = some (.int .i64) := by
  unfold isI64 at h
  split at h
  · rename_i k hk
    rw [hk, of_decide_eq_true h]
  · cases h
def structB (P : Program) (t n : Nat) : Bool := match P.underlying t with
  | some (.struct fs) => Nat.beq fs.size n && fs.toList.zipIdx.all fun x => isI64 P x.1.type && (Nat.beq x.1.offset x.2 && Nat.beq (P.cellsOf x.1.type) 1)
  | _ => false
theorem structB_eq {P : Program} {t n : Nat} (h : structB P t n = true) : ∃ fs, P.underlying t = some (.struct fs) ∧ fs.size = n ∧ ∀ (i : Nat) (f : Field), fs[i]? = some f → P.underlying f.type = some (.int .i64) ∧ f.offset = i ∧ P.cellsOf f.type = 1 := by
  unfold structB at h
  split at h
  · rename_i fs hfs
    simp only [Bool.and_eq_true] at h
    refine ⟨fs, hfs, Nat.eq_of_beq_eq_true h.1, fun i f hf => ?_⟩
    have hm : (f, i) ∈ fs.toList.zipIdx := by
      rw [List.mem_zipIdx_iff_getElem?]
      simpa using hf
    have := List.all_eq_true.1 h.2 _ hm
    simp only [Bool.and_eq_true] at this
    exact ⟨isI64_eq this.1, Nat.eq_of_beq_eq_true this.2.1, Nat.eq_of_beq_eq_true this.2.2⟩
  · cases h

theorem laid_cells {W : World} (h : laidMetH Tryz.prog seatLaid W) : Cells W 0 0 [.int .i64 0, .int .i64 12, .int .i64 12, .int .i64 20] ∧ Cells W 1 0 [.int .i64 0, .int .i64 4, .int .i64 4, .int .i64 3, .int .i64 7, .int .i64 20] ∧ Cells W 3 0 (tab64.map fun n : Nat => .int .u8 (n : Int)) := by
  rw [MakeChecks.laidMetH_plain _ _ _ (by kernel_rfl)] at h
  refine ⟨?_, ?_, ?_⟩
  · obtain ⟨g, t, cs, fuel, p, hg, ht, hv, hd⟩ := Lib.laidMet.reads h (List.mem_cons_self)
    obtain rfl := Option.some.inj ((show Tryz.prog.globalNamed "alum/pointer.pointers" = some 0 by kernel_rfl).symm.trans hg)
    obtain rfl := Option.some.inj ((show (Tryz.prog.globals[0]?).map (·.type) = some 157 by kernel_rfl).symm.trans ht)
    have hc := cell_at hg hv
    have hu : Tryz.prog.underlying 157 = some (.array 2 156) := by kernel_rfl
    have hco : Tryz.prog.cellsOf 156 = 2 := by kernel_rfl
    have el : ∀ (i : Nat) (zs : List Int), i < 2 → ([(DataW.agg [.lit (.int .i64 0), .lit (.int .i64 12)] : DataW Unit), .agg [.lit (.int .i64 12), .lit (.int .i64 20)]])[i]? = some (.agg (zs.map fun z => .lit (.int .i64 z))) → (cs.toList.drop (i * 2)).take 2 = zs.map fun z => Value.int .i64 z := by
      intro i zs hi hz
      obtain ⟨f', d, q, h1, h2⟩ := Lib.array_elem hu hd i hi
      rw [hz] at h1
      obtain rfl := Option.some.inj h1
      rw [hco] at h2
      obtain ⟨fs, hfs, hfo, hff⟩ := structB_eq (show structB Tryz.prog 156 2 = true by kernel_rfl)
      exact Lib.ints_of_struct hfs hff (by rw [hco, hfo]) h2
    have e0 := el 0 [0, 12] (by decide) rfl
    have e1 := el 1 [12, 20] (by decide) rfl
    intro i v hi
    have hi4 : i < 4 := by
      have := (List.getElem?_eq_some_iff.1 hi).1
      simpa using this
    refine hc i v ?_
    rcases i with _ | _ | _ | _ | i
    · have := congrArg (·[0]?) e0
      simp at this hi
      subst hi
      simpa using this
    · have := congrArg (·[1]?) e0
      simp at this hi
      subst hi
      simpa using this
    · have := congrArg (·[0]?) e1
      simp [List.getElem?_drop] at this hi
      subst hi
      simpa using this
    · have := congrArg (·[1]?) e1
      simp [List.getElem?_drop] at this hi
      subst hi
      simpa using this
    · omega
  · obtain ⟨g, t, cs, fuel, p, hg, ht, hv, hd⟩ := Lib.laidMet.reads h (n := "alum/pointer.headers") (d := Rows.laid_alum_pointer_headers) (.tail _ (.head _))
    obtain rfl := Option.some.inj ((show Tryz.prog.globalNamed "alum/pointer.headers" = some 1 by kernel_rfl).symm.trans hg)
    obtain rfl := Option.some.inj ((show (Tryz.prog.globals[1]?).map (·.type) = some 182 by kernel_rfl).symm.trans ht)
    have hc := cell_at hg hv
    have hu : Tryz.prog.underlying 182 = some (.array 3 156) := by kernel_rfl
    have hco : Tryz.prog.cellsOf 156 = 2 := by kernel_rfl
    have el : ∀ (i : Nat) (zs : List Int), i < 3 → ([(DataW.agg [.lit (.int .i64 0), .lit (.int .i64 4)] : DataW Unit), .agg [.lit (.int .i64 4), .lit (.int .i64 3)], .agg [.lit (.int .i64 7), .lit (.int .i64 20)]])[i]? = some (.agg (zs.map fun z => .lit (.int .i64 z))) → (cs.toList.drop (i * 2)).take 2 = zs.map fun z => Value.int .i64 z := by
      intro i zs hi hz
      obtain ⟨f', d, q, h1, h2⟩ := Lib.array_elem hu hd i hi
      rw [hz] at h1
      obtain rfl := Option.some.inj h1
      rw [hco] at h2
      obtain ⟨fs, hfs, hfo, hff⟩ := structB_eq (show structB Tryz.prog 156 2 = true by kernel_rfl)
      exact Lib.ints_of_struct hfs hff (by rw [hco, hfo]) h2
    have e0 := el 0 [0, 4] (by decide) rfl
    have e1 := el 1 [4, 3] (by decide) rfl
    have e2 := el 2 [7, 20] (by decide) rfl
    intro i v hi
    have hi6 : i < 6 := by
      have := (List.getElem?_eq_some_iff.1 hi).1
      simpa using this
    refine hc i v ?_
    rcases i with _ | _ | _ | _ | _ | _ | i
    · have := congrArg (·[0]?) e0
      simp at this hi
      subst hi
      simpa using this
    · have := congrArg (·[1]?) e0
      simp at this hi
      subst hi
      simpa using this
    · have := congrArg (·[0]?) e1
      simp [List.getElem?_drop] at this hi
      subst hi
      simpa using this
    · have := congrArg (·[1]?) e1
      simp [List.getElem?_drop] at this hi
      subst hi
      simpa using this
    · have := congrArg (·[0]?) e2
      simp [List.getElem?_drop] at this hi
      subst hi
      simpa using this
    · have := congrArg (·[1]?) e2
      simp [List.getElem?_drop] at this hi
      subst hi
      simpa using this
    · omega
  · obtain ⟨g, t, cs, fuel, p, hg, ht, hv, hd⟩ := Lib.laidMet.reads h (n := "math/bits.deBruijn64tab") (d := Rows.laid_math_bits_deBruijn64tab) (.tail _ (.tail _ (.tail _ (.head _))))
    obtain rfl := Option.some.inj ((show Tryz.prog.globalNamed "math/bits.deBruijn64tab" = some 3 by kernel_rfl).symm.trans hg)
    obtain rfl := Option.some.inj ((show (Tryz.prog.globals[3]?).map (·.type) = some 195 by kernel_rfl).symm.trans ht)
    have hc := cell_at hg hv
    have hz := Lib.cells_of_tab (e := 5) (n := 64) (k := .u8) (zs := tab64.map fun n : Nat => (n : Int)) (by kernel_rfl) (by kernel_rfl) (by kernel_rfl) (by kernel_rfl) hd
    rw [hz] at hc
    have : (tab64.map fun n : Nat => (n : Int)).map (fun z => Value.int .u8 z) = tab64.map fun n : Nat => .int .u8 (n : Int) := by rw [List.map_map]; rfl
    rw [this] at hc
    exact hc

theorem gl_of_laid {W : World} (h : laidMetH Tryz.prog seatLaid W) : Gl W := by
  obtain ⟨h1, h3, h2⟩ := laid_cells h
  have := cell_lt (h2 0 (.int .u8 0) rfl)
  exact ⟨h1, h3, h2, this⟩

theorem below_of_tr {W W' : World} (t : Tr [] W W') : Below W.heap.size W W' := ⟨t.os, t.tape, t.out, t.size, fun k hk => t.keep k hk (by simp)⟩

theorem kept_of_tr {W W' : World} (t : Tr [] W W') (may : MemPlace → Prop) : W.keptBut W' may := by
  refine ⟨t.os, t.out, fun i hi => ?_⟩
  rw [t.keep i hi (by simp)]
  split
  · rename_i h1 h2
    rw [h1] at h2
    cases h2
    exact ⟨rfl, rfl, rfl, fun _ _ => rfl⟩
  · rename_i h1 h2
    rw [h1] at h2
    cases h2
    exact .inr ⟨rfl, rfl⟩
  · rfl

end Go.Proofs.YthepaakejpbppaaGreatDoor
