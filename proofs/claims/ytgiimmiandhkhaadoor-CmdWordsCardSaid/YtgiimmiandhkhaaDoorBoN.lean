/- The bodies: the reference's Words. -/
import Derived.Test.YtgiimmiandhkhaaDoorProg
import Derived.Test.YtgiimmiandhkhaaDoorBoQ
namespace Go.Proofs.YtgiimmiandhkhaaDoor
open Go.RowKit
set_option linter.unusedSimpArgs false
set_option linter.unusedVariables false

def glue (w : List UInt8) : List (List UInt8) → List (List UInt8)
  | [] => [w]
  | x :: r => (w ++ x) :: r
theorem glue_nil (c : UInt8) (w : List UInt8) : glue w (spl c []) = [w] := by simp [spl, glue]
theorem glue_eq (c : UInt8) (w l : List UInt8) : glue w (spl c (c :: l)) = w :: glue [] (spl c l) := by
  rw [spl, if_pos rfl]
  cases h : spl c l with
  | nil => exact absurd h (spl_ne c l)
  | cons x r => simp [glue]
theorem glue_ne {b c : UInt8} (h : ¬ b = c) (w l : List UInt8) : glue w (spl c (b :: l)) = glue (w ++ [b]) (spl c l) := by
  rw [spl, if_neg h]
  cases hs : spl c l with
  | nil => exact absurd hs (spl_ne c l)
  | cons x r => simp [glue, consHd]
theorem glue_start (c : UInt8) (l : List UInt8) : glue [] (spl c l) = spl c l := by
  cases h : spl c l with
  | nil => exact absurd h (spl_ne c l)
  | cons x r => simp [glue]

end Go.Proofs.YtgiimmiandhkhaaDoor
