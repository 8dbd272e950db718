/- The calculus E, part G: from closed facts to what is asked of a program. -/
import Derived.Test.YtlfolinjajjgjaaDoorEF
import Derived.KernelRfl
namespace Go.E

theorem tget_mem : ∀ {l : List (Nat × TI)} {t : Nat} {x : TI}, tget l t = some x → (t, x) ∈ l
  | [], _, _, h => by simp [tget] at h
  | (i, y) :: r, t, x, h => by
    simp only [tget] at h
    cases hb : Nat.beq i t with
    | true =>
      simp only [hb, cond_true, Option.some.injEq] at h
      subst h
      rw [← Nat.eq_of_beq_eq_true hb]
      simp
    | false =>
      simp only [hb, cond_false] at h
      exact List.mem_cons_of_mem _ (tget_mem h)

def zok (P : Program) (t : Nat) : Bool :=
  match P.info? t with
  | some i => match i.zero with
    | some z => Nat.beq z.cells.size i.size
    | none => false
  | none => false

theorem Cx.ok_of {c : Cx} (h1 : c.tb.map (fun p => tiOf c.P p.1) = c.tb.map (fun p => some p.2)) (h2 : c.tb.all (fun p => zok c.P p.1) = true)
    (h3 : (List.range' c.lo (c.hi - c.lo)).all (okFn c.P) = true) (h4 : c.P.follows .mixedOrders = true) : c.Ok where
  types := fun t x h => List.map_inj_left.1 h1 _ (tget_mem h)
  zeros := fun t x h => by
    have := List.all_eq_true.1 h2 _ (tget_mem h)
    unfold zok at this
    cases hi : c.P.info? t with
    | none => simp [hi] at this
    | some i =>
      cases hz : i.zero with
      | none => simp [hi, hz] at this
      | some z => exact ⟨z, i, rfl, hz, by simpa [hi, hz] using this⟩
  funcs := fun f hlo hhi => List.all_eq_true.1 h3 f (List.mem_range'_1.2 ⟨hlo, by omega⟩)
  mixed := h4

end Go.E
