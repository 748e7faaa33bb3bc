/- The bodies: the reference's opOf. Printed by gen-opof.py. -/
import Derived.Test.YtgiimmiandhkhaaDoorProg
import Derived.Test.YtgiimmiandhkhaaDoorBoJ
import Derived.Test.YtgiimmiandhkhaaDoorBoO
namespace Go.Proofs.YtgiimmiandhkhaaDoor
open Go.RowKit
set_option linter.unusedSimpArgs false
set_option linter.unusedVariables false

def natE (n : Nat) : List Value := [.int .i64 (n : Int)]
theorem natE_len (v : Nat) : (natE v).length = 1 := rfl
theorem natE_one (t : Nat) : ∀ u ∈ natE t, u.oneCell' = true := by
  intro u hu
  simp only [natE, List.mem_cons, List.not_mem_nil, or_false] at hu
  subst hu; rfl
theorem elem_nat : ElemT Tryd.prog 27 3 1 8 := elemT_of (z := .int .i64 0) Tryd.underlying27 (by kernel_rfl) rfl (by decide)
theorem numsL_snoc : ∀ (L : List (List UInt8)) (ns : List Nat) (x : List UInt8) (v : Nat), numsL L = some ns → numV x 9 = some v → numsL (L ++ [x]) = some (ns ++ [v])
  | [], ns, x, v, h, hx => by simp [numsL] at h; subst h; simp [numsL, hx]
  | y :: r, ns, x, v, h, hx => by
    unfold numsL at h
    cases hy : numV y 9 with
    | none => rw [hy] at h; cases h
    | some u =>
      rw [hy] at h
      cases hr : numsL r with
      | none => rw [hr] at h; cases h
      | some ms =>
        rw [hr] at h
        simp only [Option.map_some, Option.some.injEq] at h
        subst h
        rw [List.cons_append, numsL, hy]
        simp only []
        rw [numsL_snoc r ms x v hr hx]; rfl
theorem numsL_bad : ∀ (L : List (List UInt8)) (x : List UInt8) (t : List (List UInt8)), numV x 9 = none → numsL (L ++ x :: t) = none
  | [], x, t, hx => by simp [numsL, hx]
  | y :: r, x, t, hx => by
    rw [List.cons_append, numsL, numsL_bad r x t hx]
    cases numV y 9 <;> rfl
theorem numsL_len : ∀ (L : List (List UInt8)) (ns : List Nat), numsL L = some ns → ns.length = L.length
  | [], ns, h => by simp [numsL] at h; subst h; rfl
  | y :: r, ns, h => by
    have := congrArg List.length (numsL_dec _ _ h)
    simpa using this.symm
theorem numV_lt {w : List UInt8} {v : Nat} (h : numV w 9 = some v) : v < 1000000000 := by
  obtain ⟨_, h2, h3, h4⟩ := numV_some h
  rw [h2]
  exact Nat.lt_of_lt_of_le (valL_lt w h4) (Nat.pow_le_pow_right (by decide) h3)

end Go.Proofs.YtgiimmiandhkhaaDoor
