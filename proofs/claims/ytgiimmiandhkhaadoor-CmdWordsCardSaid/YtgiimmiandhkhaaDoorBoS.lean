/- The bodies' laws: awake, BodySteps. -/
import Derived.Test.YtgiimmiandhkhaaDoorProg
import Derived.Test.YtgiimmiandhkhaaDoorBoP
namespace Go.Proofs.YtgiimmiandhkhaaDoor
open Go.RowKit
set_option linter.unusedSimpArgs false
set_option linter.unusedVariables false

def awL : List BOp := [⟨2, 3, 0⟩, ⟨5, 0, 0⟩]
theorem aw_ok : okB awL = true := by decide
theorem aw_text : mk (textL awL) = ⟨#[115, 117, 98, 109, 105, 116, 32, 51, 59, 112, 97, 110, 105, 99]⟩ := by
  have h3 : Lib.itoa 3 = [51] := by
    have := Lib.itoa_nonneg 3
    rw [Lib.decDigits_one (by omega)] at this
    exact this
  have h1 : toldL ⟨2, 3, 0⟩ = [115, 117, 98, 109, 105, 116, 32, 51] := by
    unfold toldL
    rw [show arOf (2 : Int) = 1 from rfl, (argsL_eq _).2.1]
    show wdOf 2 ++ 32 :: Lib.itoa 3 = _
    rw [h3]; rfl
  have h2 : toldL ⟨5, 0, 0⟩ = [112, 97, 110, 105, 99] := by
    unfold toldL
    rw [show arOf (5 : Int) = 0 from rfl, (argsL_eq _).1]; rfl
  unfold textL awL
  rw [if_neg (by simp), List.map_cons, List.map_cons, List.map_nil, h1, h2]
  rfl
theorem aw_steps : stepsV awL = 2 := by decide
theorem parse_mk (l : List BOp) (h : okB l = true) (w : World) (hG : Gl w) :
    Calls Tryd.prog 30 #[.string (mk (textL l))] w fun e w' => ∃ v g, e = .returned (.tuple #[v, .int .i64 0]) ∧ SlO w' 81 3 opB g v l ∧ Ext NoB w w' ∧ (∀ q, g = some q → w.heap.size ≤ q) := by
  have hd : (mk (textL l)).data.toList = textL l := by simp [mk]
  refine (parse_calls (mk (textL l)) w hG).mono ?_
  rintro e w' ⟨v, g, he, hO, hx, hg⟩
  rw [hd, parse_text l h] at he hO
  exact ⟨v, g, he, hO, hx, hg⟩

end Go.Proofs.YtgiimmiandhkhaaDoor
