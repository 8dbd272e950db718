/-
  NARROWER THAN 'FOR EVERY INPUT', by the rows' own cells (each row's printed sentence says how): ClassPlacesMatchSpec: laid · ClassFollowMatchesSpec: laid · ClassScanMatchesSpec: laid · ClassRotIsLocal: laid · ClassFillMatchesSpec: laid · ClassFillKeeps: laid.
  DERIVED. THE GIVEN ROWS OF THIS SEAT. 6 by the template 'for every input the law returns true; each argument reads behind the call as it read before'; 0 by the template 'total and deterministic' (their statements: YthepaakejpbppaaGreatDoorTotals.lean).
  GIVEN WITH THE SEED: the statements are not yours to turn. If you find one false, say at which input.
  Laid BY PROGRAM, IN A SANDBOX (cutbox-rows.mjs): the forced cells as the released guide's own fill.sh prints them over the translation fa4275bd4f124efc… (all of the seat's roots in one cut). By AI agents, Wed Nov 11 2026. No macro, syntax, notation, axiom, sorry.
-/
import Derived.Test.YthepaakejpbppaaGreatDoorChecked
import GoSem.Claim
import GoSem.ClaimJoined
import GoSem.ClaimMapViews
import Derived.JoinedTies
import Derived.KernelRfl
namespace Go.Proofs.YthepaakejpbppaaGreatDoor
/- THE CELL 'sum', in the pinned program and in every row, IS THE sha256 OF THE DUMP (.gsa) THAT YthepaakejpbppaaGreatDoorProg.lean LOADS. Nothing in Lean hashes anything: it is a label: what it is worth is what the hold of that sum in a sandbox is worth. -/
noncomputable def Tryz.pinned : Pinned := { name := "ythepaakejpbppaagreatdoor", sum := "fa4275bd4f124efcff7605c706cb10063692a37f7489663016d0e766f279ac0e", checked := Tryz.checked }
namespace Rows
def none {H : Type} : Left H := { results := [], args := [] }

/- WHAT THE LISTED PACKAGE-LEVEL VARIABLES READ AS WHEN THE CALL BEGINS. Each datum BY PROGRAM (the guide's laid-datum.mjs) off the statement by which the dump's own 'gosem.cut.vars' lays the variable. In a bare row this is a premise. The card (YthepaakejpbppaaGreatDoorCards.lean) ties it to the program's text. -/
def laid_alum_pointer_pointers {H : Type} : DataW H := .agg [.agg [.lit (.int .i64 0), .lit (.int .i64 12)], .agg [.lit (.int .i64 12), .lit (.int .i64 20)]]
def laid_alum_pointer_headers {H : Type} : DataW H := .agg [.agg [.lit (.int .i64 0), .lit (.int .i64 4)], .agg [.lit (.int .i64 4), .lit (.int .i64 3)], .agg [.lit (.int .i64 7), .lit (.int .i64 20)]]
def laid_math_bits_deBruijn32tab {H : Type} : DataW H := .agg [.lit (.int .u8 0), .lit (.int .u8 1), .lit (.int .u8 28), .lit (.int .u8 2), .lit (.int .u8 29), .lit (.int .u8 14), .lit (.int .u8 24), .lit (.int .u8 3), .lit (.int .u8 30), .lit (.int .u8 22), .lit (.int .u8 20), .lit (.int .u8 15), .lit (.int .u8 25), .lit (.int .u8 17), .lit (.int .u8 4), .lit (.int .u8 8), .lit (.int .u8 31), .lit (.int .u8 27), .lit (.int .u8 13), .lit (.int .u8 23), .lit (.int .u8 21), .lit (.int .u8 19), .lit (.int .u8 16), .lit (.int .u8 7), .lit (.int .u8 26), .lit (.int .u8 12), .lit (.int .u8 18), .lit (.int .u8 6), .lit (.int .u8 11), .lit (.int .u8 5), .lit (.int .u8 10), .lit (.int .u8 9)]
def laid_math_bits_deBruijn64tab {H : Type} : DataW H := .agg [.lit (.int .u8 0), .lit (.int .u8 1), .lit (.int .u8 56), .lit (.int .u8 2), .lit (.int .u8 57), .lit (.int .u8 49), .lit (.int .u8 28), .lit (.int .u8 3), .lit (.int .u8 61), .lit (.int .u8 58), .lit (.int .u8 42), .lit (.int .u8 50), .lit (.int .u8 38), .lit (.int .u8 29), .lit (.int .u8 17), .lit (.int .u8 4), .lit (.int .u8 62), .lit (.int .u8 47), .lit (.int .u8 59), .lit (.int .u8 36), .lit (.int .u8 45), .lit (.int .u8 43), .lit (.int .u8 51), .lit (.int .u8 22), .lit (.int .u8 53), .lit (.int .u8 39), .lit (.int .u8 33), .lit (.int .u8 30), .lit (.int .u8 24), .lit (.int .u8 18), .lit (.int .u8 12), .lit (.int .u8 5), .lit (.int .u8 63), .lit (.int .u8 55), .lit (.int .u8 48), .lit (.int .u8 27), .lit (.int .u8 60), .lit (.int .u8 41), .lit (.int .u8 37), .lit (.int .u8 16), .lit (.int .u8 46), .lit (.int .u8 35), .lit (.int .u8 44), .lit (.int .u8 21), .lit (.int .u8 52), .lit (.int .u8 32), .lit (.int .u8 23), .lit (.int .u8 11), .lit (.int .u8 54), .lit (.int .u8 26), .lit (.int .u8 40), .lit (.int .u8 15), .lit (.int .u8 34), .lit (.int .u8 20), .lit (.int .u8 31), .lit (.int .u8 10), .lit (.int .u8 25), .lit (.int .u8 14), .lit (.int .u8 19), .lit (.int .u8 9), .lit (.int .u8 13), .lit (.int .u8 8), .lit (.int .u8 7), .lit (.int .u8 6)]

/-- 'alumlaw11.ClassPlacesMatchSpec': WHATEVER THE INPUT: true; the input reads as it did. -/
def classPlacesMatchSpecSpec : ChangeSpec := { name := "classPlacesMatchSpec", fn := fun _ => fun
  | [d1, d2, d3] => { results := [.lit (.bool true)], args := [d1, d2, d3] }
  | _ => none }
def classPlacesMatchSpecRow : OpenClaim := { program := "ythepaakejpbppaagreatdoor", sum := "fa4275bd4f124efcff7605c706cb10063692a37f7489663016d0e766f279ac0e", func := "alum/alumlaw11.ClassPlacesMatchSpec", spec := "classPlacesMatchSpec", unfollowed := true, recurses := true, named := ["math/bits.deBruijn32tab", "math/bits.deBruijn64tab", "alum/pointer.headers", "alum/pointer.pointers"], apart := false, laid := [("alum/pointer.pointers", laid_alum_pointer_pointers), ("alum/pointer.headers", laid_alum_pointer_headers), ("math/bits.deBruijn32tab", laid_math_bits_deBruijn32tab), ("math/bits.deBruijn64tab", laid_math_bits_deBruijn64tab)] }
def ClassPlacesMatchSpecSaid : Prop := classPlacesMatchSpecRow.holds Tryz.pinned (OpenSpec.ofChange classPlacesMatchSpecSpec)

/-- ITS FALSE NEIGHBOUR: 'it returns false'. Refute it at one input. -/
def classPlacesMatchSpecWrong : ChangeSpec := { name := "classPlacesMatchSpec", fn := fun _ => fun
  | [d1, d2, d3] => { results := [.lit (.bool false)], args := [d1, d2, d3] }
  | _ => none }
def ClassPlacesMatchSpecWrongFalsely : Prop := classPlacesMatchSpecRow.holds Tryz.pinned (OpenSpec.ofChange classPlacesMatchSpecWrong)

/-- 'alumlaw11.ClassFollowMatchesSpec': WHATEVER THE INPUT: true; the input reads as it did. -/
def classFollowMatchesSpecSpec : ChangeSpec := { name := "classFollowMatchesSpec", fn := fun _ => fun
  | [d1, d2] => { results := [.lit (.bool true)], args := [d1, d2] }
  | _ => none }
def classFollowMatchesSpecRow : OpenClaim := { program := "ythepaakejpbppaagreatdoor", sum := "fa4275bd4f124efcff7605c706cb10063692a37f7489663016d0e766f279ac0e", func := "alum/alumlaw11.ClassFollowMatchesSpec", spec := "classFollowMatchesSpec", unfollowed := true, recurses := true, named := ["math/bits.deBruijn32tab", "math/bits.deBruijn64tab", "alum/pointer.headers", "alum/pointer.pointers"], apart := false, laid := [("alum/pointer.pointers", laid_alum_pointer_pointers), ("alum/pointer.headers", laid_alum_pointer_headers), ("math/bits.deBruijn32tab", laid_math_bits_deBruijn32tab), ("math/bits.deBruijn64tab", laid_math_bits_deBruijn64tab)] }
def ClassFollowMatchesSpecSaid : Prop := classFollowMatchesSpecRow.holds Tryz.pinned (OpenSpec.ofChange classFollowMatchesSpecSpec)

/-- ITS FALSE NEIGHBOUR: 'it returns false'. Refute it at one input. -/
def classFollowMatchesSpecWrong : ChangeSpec := { name := "classFollowMatchesSpec", fn := fun _ => fun
  | [d1, d2] => { results := [.lit (.bool false)], args := [d1, d2] }
  | _ => none }
def ClassFollowMatchesSpecWrongFalsely : Prop := classFollowMatchesSpecRow.holds Tryz.pinned (OpenSpec.ofChange classFollowMatchesSpecWrong)

/-- 'alumlaw11.ClassScanMatchesSpec': WHATEVER THE INPUT: true; the input reads as it did. -/
def classScanMatchesSpecSpec : ChangeSpec := { name := "classScanMatchesSpec", fn := fun _ => fun
  | [d] => { results := [.lit (.bool true)], args := [d] }
  | _ => none }
def classScanMatchesSpecRow : OpenClaim := { program := "ythepaakejpbppaagreatdoor", sum := "fa4275bd4f124efcff7605c706cb10063692a37f7489663016d0e766f279ac0e", func := "alum/alumlaw11.ClassScanMatchesSpec", spec := "classScanMatchesSpec", unfollowed := true, recurses := true, named := ["math/bits.deBruijn32tab", "math/bits.deBruijn64tab", "alum/pointer.headers", "alum/pointer.pointers"], apart := false, laid := [("alum/pointer.pointers", laid_alum_pointer_pointers), ("alum/pointer.headers", laid_alum_pointer_headers), ("math/bits.deBruijn32tab", laid_math_bits_deBruijn32tab), ("math/bits.deBruijn64tab", laid_math_bits_deBruijn64tab)] }
def ClassScanMatchesSpecSaid : Prop := classScanMatchesSpecRow.holds Tryz.pinned (OpenSpec.ofChange classScanMatchesSpecSpec)

/-- ITS FALSE NEIGHBOUR: 'it returns false'. Refute it at one input. -/
def classScanMatchesSpecWrong : ChangeSpec := { name := "classScanMatchesSpec", fn := fun _ => fun
  | [d] => { results := [.lit (.bool false)], args := [d] }
  | _ => none }
def ClassScanMatchesSpecWrongFalsely : Prop := classScanMatchesSpecRow.holds Tryz.pinned (OpenSpec.ofChange classScanMatchesSpecWrong)

/-- 'alumlaw11.ClassRotIsLocal': WHATEVER THE INPUT: true; the input reads as it did. -/
def classRotIsLocalSpec : ChangeSpec := { name := "classRotIsLocal", fn := fun _ => fun
  | [d1, d2] => { results := [.lit (.bool true)], args := [d1, d2] }
  | _ => none }
def classRotIsLocalRow : OpenClaim := { program := "ythepaakejpbppaagreatdoor", sum := "fa4275bd4f124efcff7605c706cb10063692a37f7489663016d0e766f279ac0e", func := "alum/alumlaw11.ClassRotIsLocal", spec := "classRotIsLocal", unfollowed := true, recurses := true, named := ["math/bits.deBruijn32tab", "math/bits.deBruijn64tab", "alum/pointer.headers", "alum/pointer.pointers"], apart := false, laid := [("alum/pointer.pointers", laid_alum_pointer_pointers), ("alum/pointer.headers", laid_alum_pointer_headers), ("math/bits.deBruijn32tab", laid_math_bits_deBruijn32tab), ("math/bits.deBruijn64tab", laid_math_bits_deBruijn64tab)] }
def ClassRotIsLocalSaid : Prop := classRotIsLocalRow.holds Tryz.pinned (OpenSpec.ofChange classRotIsLocalSpec)

/-- ITS FALSE NEIGHBOUR: 'it returns false'. Refute it at one input. -/
def classRotIsLocalWrong : ChangeSpec := { name := "classRotIsLocal", fn := fun _ => fun
  | [d1, d2] => { results := [.lit (.bool false)], args := [d1, d2] }
  | _ => none }
def ClassRotIsLocalWrongFalsely : Prop := classRotIsLocalRow.holds Tryz.pinned (OpenSpec.ofChange classRotIsLocalWrong)

/-- 'alumlaw11.ClassFillMatchesSpec': WHATEVER THE INPUT: true; the input reads as it did. -/
def classFillMatchesSpecSpec : ChangeSpec := { name := "classFillMatchesSpec", fn := fun _ => fun
  | [d1, d2, d3] => { results := [.lit (.bool true)], args := [d1, d2, d3] }
  | _ => none }
def classFillMatchesSpecRow : OpenClaim := { program := "ythepaakejpbppaagreatdoor", sum := "fa4275bd4f124efcff7605c706cb10063692a37f7489663016d0e766f279ac0e", func := "alum/alumlaw11.ClassFillMatchesSpec", spec := "classFillMatchesSpec", unfollowed := true, recurses := true, named := ["math/bits.deBruijn32tab", "math/bits.deBruijn64tab", "alum/pointer.headers", "alum/pointer.pointers"], apart := false, laid := [("alum/pointer.pointers", laid_alum_pointer_pointers), ("alum/pointer.headers", laid_alum_pointer_headers), ("math/bits.deBruijn32tab", laid_math_bits_deBruijn32tab), ("math/bits.deBruijn64tab", laid_math_bits_deBruijn64tab)] }
def ClassFillMatchesSpecSaid : Prop := classFillMatchesSpecRow.holds Tryz.pinned (OpenSpec.ofChange classFillMatchesSpecSpec)

/-- ITS FALSE NEIGHBOUR: 'it returns false'. Refute it at one input. -/
def classFillMatchesSpecWrong : ChangeSpec := { name := "classFillMatchesSpec", fn := fun _ => fun
  | [d1, d2, d3] => { results := [.lit (.bool false)], args := [d1, d2, d3] }
  | _ => none }
def ClassFillMatchesSpecWrongFalsely : Prop := classFillMatchesSpecRow.holds Tryz.pinned (OpenSpec.ofChange classFillMatchesSpecWrong)

/-- 'alumlaw11.ClassFillKeeps': WHATEVER THE INPUT: true; the input reads as it did. -/
def classFillKeepsSpec : ChangeSpec := { name := "classFillKeeps", fn := fun _ => fun
  | [d1, d2, d3] => { results := [.lit (.bool true)], args := [d1, d2, d3] }
  | _ => none }
def classFillKeepsRow : OpenClaim := { program := "ythepaakejpbppaagreatdoor", sum := "fa4275bd4f124efcff7605c706cb10063692a37f7489663016d0e766f279ac0e", func := "alum/alumlaw11.ClassFillKeeps", spec := "classFillKeeps", unfollowed := true, recurses := true, named := ["math/bits.deBruijn32tab", "math/bits.deBruijn64tab", "alum/pointer.headers", "alum/pointer.pointers"], apart := false, laid := [("alum/pointer.pointers", laid_alum_pointer_pointers), ("alum/pointer.headers", laid_alum_pointer_headers), ("math/bits.deBruijn32tab", laid_math_bits_deBruijn32tab), ("math/bits.deBruijn64tab", laid_math_bits_deBruijn64tab)] }
def ClassFillKeepsSaid : Prop := classFillKeepsRow.holds Tryz.pinned (OpenSpec.ofChange classFillKeepsSpec)

/-- ITS FALSE NEIGHBOUR: 'it returns false'. Refute it at one input. -/
def classFillKeepsWrong : ChangeSpec := { name := "classFillKeeps", fn := fun _ => fun
  | [d1, d2, d3] => { results := [.lit (.bool false)], args := [d1, d2, d3] }
  | _ => none }
def ClassFillKeepsWrongFalsely : Prop := classFillKeepsRow.holds Tryz.pinned (OpenSpec.ofChange classFillKeepsWrong)

/- THE SECOND FORM. 'bulk': how many values and letters a reading holds, each counted each time it is reached (what is shared counts as often as it is met; a slice's spare places count too). A statement '..UptoSaid' is the law's where the arguments, and the package variables that the reading takes, are together of bulk at most 1048576: NARROWER than '..Said'. Prove '..Said' where nothing that the law and all that it calls make is longer than what came in: it says more and counts as full. Else prove '..UptoSaid'. A law counts once. -/
mutual
def uptoBulk {H : Type} : DataW H → Nat
  | .lit (.string bytes) => bytes.length + 1
  | .lit _ => 1
  | .nil => 1
  | .ptr d => uptoBulk d + 1
  | .slice elems spare => uptoBulkAll elems + uptoBulkAll spare + 1
  | .agg parts => uptoBulkAll parts + 1
  | .iface _ d => uptoBulk d + 1
  | .map entries => uptoBulkEntries entries + 1
  | .held _ => 1
def uptoBulkAll {H : Type} : List (DataW H) → Nat
  | [] => 0
  | d :: r => uptoBulk d + uptoBulkAll r
def uptoBulkEntries {H : Type} : List (Lit × DataW H) → Nat
  | [] => 0
  | x :: r => uptoBulkEntry x + uptoBulkEntries r
def uptoBulkEntry {H : Type} : Lit × DataW H → Nat
  | (.string bytes, d) => bytes.length + uptoBulk d + 1
  | (_, d) => uptoBulk d + 1
 end
def uptoSmall : (H : Type) → List (DataW H) → Bool := fun _ ds => decide (uptoBulkAll ds ≤ 1048576)
def OpenSpec.upto (s : _root_.Go.ChangeSpec) : _root_.Go.OpenSpec := { _root_.Go.OpenSpec.ofChange s with cond := some uptoSmall }

/-- 'alumlaw11.ClassPlacesMatchSpec', WHERE WHAT IT READS IS OF BULK AT MOST 1048576: true; the input reads as it did. -/
def classPlacesMatchSpecUptoRow : OpenClaim := { program := "ythepaakejpbppaagreatdoor", sum := "fa4275bd4f124efcff7605c706cb10063692a37f7489663016d0e766f279ac0e", func := "alum/alumlaw11.ClassPlacesMatchSpec", spec := "classPlacesMatchSpec", unfollowed := true, recurses := true, named := ["math/bits.deBruijn32tab", "math/bits.deBruijn64tab", "alum/pointer.headers", "alum/pointer.pointers"], apart := false, laid := [("alum/pointer.pointers", laid_alum_pointer_pointers), ("alum/pointer.headers", laid_alum_pointer_headers), ("math/bits.deBruijn32tab", laid_math_bits_deBruijn32tab), ("math/bits.deBruijn64tab", laid_math_bits_deBruijn64tab)], narrowed := true }
def ClassPlacesMatchSpecUptoSaid : Prop := classPlacesMatchSpecUptoRow.holds Tryz.pinned (OpenSpec.upto classPlacesMatchSpecSpec)

/-- 'alumlaw11.ClassFollowMatchesSpec', WHERE WHAT IT READS IS OF BULK AT MOST 1048576: true; the input reads as it did. -/
def classFollowMatchesSpecUptoRow : OpenClaim := { program := "ythepaakejpbppaagreatdoor", sum := "fa4275bd4f124efcff7605c706cb10063692a37f7489663016d0e766f279ac0e", func := "alum/alumlaw11.ClassFollowMatchesSpec", spec := "classFollowMatchesSpec", unfollowed := true, recurses := true, named := ["math/bits.deBruijn32tab", "math/bits.deBruijn64tab", "alum/pointer.headers", "alum/pointer.pointers"], apart := false, laid := [("alum/pointer.pointers", laid_alum_pointer_pointers), ("alum/pointer.headers", laid_alum_pointer_headers), ("math/bits.deBruijn32tab", laid_math_bits_deBruijn32tab), ("math/bits.deBruijn64tab", laid_math_bits_deBruijn64tab)], narrowed := true }
def ClassFollowMatchesSpecUptoSaid : Prop := classFollowMatchesSpecUptoRow.holds Tryz.pinned (OpenSpec.upto classFollowMatchesSpecSpec)

/-- 'alumlaw11.ClassScanMatchesSpec', WHERE WHAT IT READS IS OF BULK AT MOST 1048576: true; the input reads as it did. -/
def classScanMatchesSpecUptoRow : OpenClaim := { program := "ythepaakejpbppaagreatdoor", sum := "fa4275bd4f124efcff7605c706cb10063692a37f7489663016d0e766f279ac0e", func := "alum/alumlaw11.ClassScanMatchesSpec", spec := "classScanMatchesSpec", unfollowed := true, recurses := true, named := ["math/bits.deBruijn32tab", "math/bits.deBruijn64tab", "alum/pointer.headers", "alum/pointer.pointers"], apart := false, laid := [("alum/pointer.pointers", laid_alum_pointer_pointers), ("alum/pointer.headers", laid_alum_pointer_headers), ("math/bits.deBruijn32tab", laid_math_bits_deBruijn32tab), ("math/bits.deBruijn64tab", laid_math_bits_deBruijn64tab)], narrowed := true }
def ClassScanMatchesSpecUptoSaid : Prop := classScanMatchesSpecUptoRow.holds Tryz.pinned (OpenSpec.upto classScanMatchesSpecSpec)

/-- 'alumlaw11.ClassRotIsLocal', WHERE WHAT IT READS IS OF BULK AT MOST 1048576: true; the input reads as it did. -/
def classRotIsLocalUptoRow : OpenClaim := { program := "ythepaakejpbppaagreatdoor", sum := "fa4275bd4f124efcff7605c706cb10063692a37f7489663016d0e766f279ac0e", func := "alum/alumlaw11.ClassRotIsLocal", spec := "classRotIsLocal", unfollowed := true, recurses := true, named := ["math/bits.deBruijn32tab", "math/bits.deBruijn64tab", "alum/pointer.headers", "alum/pointer.pointers"], apart := false, laid := [("alum/pointer.pointers", laid_alum_pointer_pointers), ("alum/pointer.headers", laid_alum_pointer_headers), ("math/bits.deBruijn32tab", laid_math_bits_deBruijn32tab), ("math/bits.deBruijn64tab", laid_math_bits_deBruijn64tab)], narrowed := true }
def ClassRotIsLocalUptoSaid : Prop := classRotIsLocalUptoRow.holds Tryz.pinned (OpenSpec.upto classRotIsLocalSpec)

/-- 'alumlaw11.ClassFillMatchesSpec', WHERE WHAT IT READS IS OF BULK AT MOST 1048576: true; the input reads as it did. -/
def classFillMatchesSpecUptoRow : OpenClaim := { program := "ythepaakejpbppaagreatdoor", sum := "fa4275bd4f124efcff7605c706cb10063692a37f7489663016d0e766f279ac0e", func := "alum/alumlaw11.ClassFillMatchesSpec", spec := "classFillMatchesSpec", unfollowed := true, recurses := true, named := ["math/bits.deBruijn32tab", "math/bits.deBruijn64tab", "alum/pointer.headers", "alum/pointer.pointers"], apart := false, laid := [("alum/pointer.pointers", laid_alum_pointer_pointers), ("alum/pointer.headers", laid_alum_pointer_headers), ("math/bits.deBruijn32tab", laid_math_bits_deBruijn32tab), ("math/bits.deBruijn64tab", laid_math_bits_deBruijn64tab)], narrowed := true }
def ClassFillMatchesSpecUptoSaid : Prop := classFillMatchesSpecUptoRow.holds Tryz.pinned (OpenSpec.upto classFillMatchesSpecSpec)

/-- 'alumlaw11.ClassFillKeeps', WHERE WHAT IT READS IS OF BULK AT MOST 1048576: true; the input reads as it did. -/
def classFillKeepsUptoRow : OpenClaim := { program := "ythepaakejpbppaagreatdoor", sum := "fa4275bd4f124efcff7605c706cb10063692a37f7489663016d0e766f279ac0e", func := "alum/alumlaw11.ClassFillKeeps", spec := "classFillKeeps", unfollowed := true, recurses := true, named := ["math/bits.deBruijn32tab", "math/bits.deBruijn64tab", "alum/pointer.headers", "alum/pointer.pointers"], apart := false, laid := [("alum/pointer.pointers", laid_alum_pointer_pointers), ("alum/pointer.headers", laid_alum_pointer_headers), ("math/bits.deBruijn32tab", laid_math_bits_deBruijn32tab), ("math/bits.deBruijn64tab", laid_math_bits_deBruijn64tab)], narrowed := true }
def ClassFillKeepsUptoSaid : Prop := classFillKeepsUptoRow.holds Tryz.pinned (OpenSpec.upto classFillKeepsSpec)

end Rows
end Go.Proofs.YthepaakejpbppaaGreatDoor
