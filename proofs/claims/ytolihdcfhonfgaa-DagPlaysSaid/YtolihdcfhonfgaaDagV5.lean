/- The reference's Done: the walk. -/
import Derived.Test.YtolihdcfhonfgaaProg
import Derived.Test.YtolihdcfhonfgaaDagW2
namespace Go.Proofs.Ytolihdcfhonfgaa
open Go.RowKit
set_option linter.unusedSimpArgs false
set_option linter.unusedVariables false

theorem less1_snoc (id p : Int) (ps : List Int) : less1 id (ps ++ [p]) = less1 id ps ++ (if p = id then [] else [p]) := by
  unfold less1
  rw [List.filter_append]
  congr 1
  by_cases h : p = id <;> simp [List.filter_cons, h]
theorem less1_len (id : Int) (ps : List Int) : (less1 id ps).length ≤ ps.length := List.length_filter_le _ _
theorem refDoneOut_snoc (id : Int) (L : List (Int × List Int)) (l : Int × List Int) : refDoneOut id (L ++ [l]) = refDoneOut id L ++ (if less1 id l.2 = [] then [l.1] else []) := by
  unfold refDoneOut
  rw [List.filter_append, List.map_append]
  congr 1
  by_cases h : less1 id l.2 = [] <;> simp [List.filter_cons, h]
theorem refDoneRest_snoc (id : Int) (L : List (Int × List Int)) (l : Int × List Int) : refDoneRest id (L ++ [l]) = refDoneRest id L ++ (if less1 id l.2 = [] then [] else [(l.1, less1 id l.2)]) := by
  unfold refDoneRest
  rw [List.filter_append, List.map_append]
  congr 1
  by_cases h : less1 id l.2 = [] <;> simp [List.filter_cons, h]
theorem refDoneOut_len (id : Int) (L : List (Int × List Int)) : (refDoneOut id L).length ≤ L.length := by
  unfold refDoneOut
  rw [List.length_map]
  exact List.length_filter_le _ _

end Go.Proofs.Ytolihdcfhonfgaa
