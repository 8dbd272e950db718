/- intent.Add on a quiet memory. -/
import Derived.Test.YtlfolinjajjgjaaDoorI4
namespace Go.Proofs.YtlfolinjajjgjaaDoor
open Go.E

theorem QMem.tr {S : List Nat} {w w' : World} {p : Nat} {LS : List (List Nat)} {nev : Nat} {F : List Nat} (h : QMem w p LS nev F) (t : Tr S w w') (hS : ∀ b ∈ S, b ∉ F) : QMem w' p LS nev F := by
  obtain ⟨bl, bm, rows, evv, span, h1, h2, rfl⟩ := h
  exact ⟨bl, bm, rows, evv, span, ⟨h1.toMemX.tr t hS, h1.busy.tr t fun hm => hS bm hm in_bm⟩, h2, rfl⟩

def badA (owner p : Int) : Bool := decide (owner < 1 ∨ 1099511627775 < owner ∨ p = 0) || !rightP p
def twiceA (S : List Sl) (p : Int) : Bool := S.any fun s => s.blocks.any fun x : Nat => p == (x : Int)
def stampedA (S : List Sl) (owner : Int) : Bool := S.any fun s => decide ((s.owner : Int) = owner) && decide (s.stamp ≠ 0)
def roomA (owner : Int) (s : Sl) : Bool := decide ((s.owner : Int) = owner) && decide (s.blocks.length < 6)
def freshA (ow pp : Nat) : List (Nat × Nat) := [(1, 0), (2, 0), (3, 0), (4, 0), (5, 0), (6, 0), (7, 0), (0, ow), (2, pp)]
def usedA (S : List Sl) (k : Int) : Bool := S.any fun s => decide ((s.slot : Int) = k)

/-- What Add leaves where nothing is in its way. -/
def openA (from_ n : Nat) (LS : List (List Nat)) (S : List Sl) (owner p : Int) : Int × List (List Nat) :=
  match S.findIdx? (roomA owner) with
  | some a => (0, LS.set (from_ + (S.getD a ⟨0, 0, 0, []⟩).slot) (lay (LS.getD (from_ + (S.getD a ⟨0, 0, 0, []⟩).slot) []) [(2 + (S.getD a ⟨0, 0, 0, []⟩).blocks.length, p.toNat)]))
  | none => match (List.range n).find? (fun k : Nat => !usedA S (k : Int)) with
    | some k => (0, LS.set (from_ + k) (lay (LS.getD (from_ + k) []) (freshA owner.toNat p.toNat)))
    | none => (8, LS)

/-- What Add returns and leaves. -/
def addF (from_ n : Nat) (LS : List (List Nat)) (owner p : Int) : Int × List (List Nat) :=
  if badA owner p then (1, LS)
  else if twiceA (slotsN LS from_ n) p then (6, LS)
  else if stampedA (slotsN LS from_ n) owner then (4, LS)
  else openA from_ n LS (slotsN LS from_ n) owner p

def atF (S : List Sl) (owner : Int) (j : Nat) : Int := match (S.take j).findIdx? (roomA owner) with
  | some a => (a : Int)
  | none => -1

def usedM (S : List Sl) (j : Nat) : Int → Option Value := fun k => if usedA (S.take j) k then some (.bool true) else none

theorem usedM_set {S : List Sl} {j : Nat} {z : Sl} (h : S.take (j + 1) = S.take j ++ [z]) : setM (usedM S j) (z.slot : Nat) (.bool true) = usedM S (j + 1) := by
  funext k
  unfold setM usedM usedA
  rw [h]
  simp only [List.any_append, List.any_cons, List.any_nil, Bool.or_false]
  by_cases hk : k = (z.slot : Int)
  · rw [if_pos hk, hk]; simp
  · rw [if_neg hk]
    have : ¬ (z.slot : Int) = k := fun e => hk e.symm
    simp [this]

theorem atF_step {S : List Sl} {owner : Int} {j : Nat} {z : Sl} (hj : j < S.length) (h : S.take (j + 1) = S.take j ++ [z]) : atF S owner (j + 1) = if atF S owner j < 0 ∧ roomA owner z = true then (j : Int) else atF S owner j := by
  unfold atF
  rw [h, List.findIdx?_append]
  cases hf : (S.take j).findIdx? (roomA owner) with
  | some a => simp; intro h; omega
  | none =>
    have hl : (S.take j).length = j := by rw [List.length_take]; omega
    cases hr : roomA owner z
    · simp [List.findIdx?_cons, hr]
    · simp [List.findIdx?_cons, hr, hl]

theorem stF_step {S : List Sl} {owner : Int} {j : Nat} {z : Sl} (h : S.take (j + 1) = S.take j ++ [z]) : stampedA (S.take (j + 1)) owner = (stampedA (S.take j) owner || (decide ((z.owner : Int) = owner) && decide (z.stamp ≠ 0))) := by
  unfold stampedA
  rw [h]
  simp

theorem zero_bool : ((cx.P.info? 4).bind fun i => i.zero) = some (.bool false) := by kernel_rfl

theorem lookup_used {W : World} {bu : Nat} {m : Int → Option Value} (h : IM W bu m) (k : Int) {K : Value → World → Prop} (hs : ∀ v, m k = some v → K v W) (hn : m k = none → K (.bool false) W) :
    RunV cx.P (Instr.lookup 70 (.map (some bu)) (.int .i64 k) false) W K :=
  map_lookup cx_ok (x := ⟨1, 8, false, [.map none], .map 3 4⟩) rfl rfl rfl rfl zero_bool h k false (fun v hv => hs v hv) hn

end Go.Proofs.YtlfolinjajjgjaaDoor
