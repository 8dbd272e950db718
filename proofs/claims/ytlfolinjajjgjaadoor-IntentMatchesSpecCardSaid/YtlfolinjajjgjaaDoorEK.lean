/- The calculus E, part K: a cut. -/
import Derived.Test.YtlfolinjajjgjaaDoorEH
import Derived.Test.YtlfolinjajjgjaaDoorEI
namespace Go.E

/-- What stands behind a piece of code is said once, for a frame of which less is known. -/
theorem cut_rule {c : Cx} {r : Option Nat} {N : Nat} {code : Code} {Q : PostX} {e : Env} {ds : List Deferred} {w : World} {α : Type} (E : α → Env) (I : α → World → Prop)
    (h1 : G c r N code (fun ex => match ex with
      | .normal => fun e' ds' w' => ds' = ds ∧ ∃ x, Sub e' (E x) ∧ I x w'
      | ex => Q ex) e ds w)
    (h2 : ∀ x w', I x w' → Q .normal (E x) ds w') : G c r N code Q e ds w := by
  refine ⟨fun a hag hd => wpIn_mono (h1.run a hag hd) fun ex a' w' h => ?_⟩
  cases ex with
  | normal =>
    obtain ⟨e', ds', hag', hd', rfl, x, hsub, hI⟩ := h
    exact ⟨E x, _, hag'.sub hsub, hd', h2 x w' hI⟩
  | _ => exact h

/-- Two ways that go on by the same code: 'refine join (e0 := ..) (fun key => ⟨fun h => G.sub ?_ key, fun h => G.sub ?_ key⟩) ?_'. -/
theorem join {c : Cx} {r : Option Nat} {N : Nat} {code : Code} {Q : PostX} {e0 : Env} {ds : List Deferred} {w : World} {Goal : Prop} (h1 : G c r N code Q e0 ds w → Goal) (h2 : G c r N code Q e0 ds w) : Goal := h1 h2

end Go.E
