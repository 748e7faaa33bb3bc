/- The bodies: the reference's BodyText. -/
import Derived.Test.YtgiimmiandhkhaaDoorProg
import Derived.Test.YtgiimmiandhkhaaDoorBoY
namespace Go.Proofs.YtgiimmiandhkhaaDoor
open Go.RowKit
set_option linter.unusedSimpArgs false
set_option linter.unusedVariables false

theorem join_snoc (c : UInt8) : ∀ (L : List (List UInt8)) (x : List UInt8), L ≠ [] → Lib.join (L ++ [x]) [c] = (Lib.join L [c] ++ [c]) ++ x
  | [], _, h => absurd rfl h
  | y :: r, x, _ => by
    rw [List.cons_append, Lib.join_cons, Lib.join_cons]
    simp [Lib.joinTail]

end Go.Proofs.YtgiimmiandhkhaaDoor
