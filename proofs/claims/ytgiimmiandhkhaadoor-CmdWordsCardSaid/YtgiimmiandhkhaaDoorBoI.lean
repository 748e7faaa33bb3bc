/- The bodies: the reference's BodyOf, walked; BodyParses. -/
import Derived.Test.YtgiimmiandhkhaaDoorProg
import Derived.Test.YtgiimmiandhkhaaDoorBoK
namespace Go.Proofs.YtgiimmiandhkhaaDoor
open Go.RowKit
set_option linter.unusedSimpArgs false
set_option linter.unusedVariables false

theorem allR_snoc : ∀ (L : List (List UInt8)) (l : List BOp) (x : List UInt8), allR L = some l → (opRV x).2 = true → allR (L ++ [x]) = some (l ++ [(opRV x).1])
  | [], l, x, h, hx => by simp [allR] at h; subst h; simp [allR, hx]
  | y :: r, l, x, h, hx => by
    unfold allR at h
    split at h
    · rename_i hy
      cases hr : allR r with
      | none => rw [hr] at h; simp at h
      | some l' =>
        rw [hr] at h
        simp only [Option.map_some, Option.some.injEq] at h
        subst h
        rw [List.cons_append, allR, if_pos hy, allR_snoc r l' x hr hx]; rfl
    · cases h
theorem allR_bad : ∀ (L : List (List UInt8)) (x : List UInt8) (t : List (List UInt8)), (opRV x).2 = false → allR (L ++ x :: t) = none
  | [], x, t, hx => by simp [allR, hx]
  | y :: r, x, t, hx => by
    rw [List.cons_append, allR, allR_bad r x t hx]
    split <;> rfl
theorem allR_len : ∀ (L : List (List UInt8)) (l : List BOp), allR L = some l → l.length = L.length
  | L, l, h => by
    have := congrArg List.length (allR_told L l h).2
    simpa using this

end Go.Proofs.YtgiimmiandhkhaaDoor
