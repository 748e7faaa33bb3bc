/- The reference's Kill. -/
import Derived.Test.YtolihdcfhonfgaaProg
import Derived.Test.YtolihdcfhonfgaaDagV2
namespace Go.Proofs.Ytolihdcfhonfgaa
open Go.RowKit
set_option linter.unusedSimpArgs false
set_option linter.unusedVariables false

def predStep (id : Int) (dead : List Int) (p : Int) : List Int := if p ∈ dead ∧ id ∉ dead then dead ++ [id] else dead
def refDead (id : Int) (L : List (Int × List Int)) : List Int := L.foldl (fun dead l => l.2.foldl (predStep l.1) dead) [id]

theorem predStep_in {id : Int} {dead : List Int} (h : id ∈ dead) (ps : List Int) : ps.foldl (predStep id) dead = dead := by
  induction ps with
  | nil => rfl
  | cons p ps ih =>
    have : predStep id dead p = dead := by unfold predStep; rw [if_neg (fun hh => hh.2 h)]
    rw [List.foldl_cons, this, ih]
theorem predStep_len (id : Int) (ps : List Int) : ∀ dead : List Int, (ps.foldl (predStep id) dead).length ≤ dead.length + 1 := by
  induction ps with
  | nil => intro dead; simp
  | cons p ps ih =>
    intro dead
    rw [List.foldl_cons]
    by_cases h : p ∈ dead ∧ id ∉ dead
    · have : predStep id dead p = dead ++ [id] := by unfold predStep; rw [if_pos h]
      rw [this, predStep_in (by simp)]
      simp
    · have : predStep id dead p = dead := by unfold predStep; rw [if_neg h]
      rw [this]
      exact ih dead
theorem refDead_len (id : Int) (L : List (Int × List Int)) : (refDead id L).length ≤ L.length + 1 := by
  unfold refDead
  have : ∀ (L : List (Int × List Int)) (d : List Int), (L.foldl (fun dead l => l.2.foldl (predStep l.1) dead) d).length ≤ L.length + d.length := by
    intro L
    induction L with
    | nil => intro d; simp
    | cons l L ih =>
      intro d
      rw [List.foldl_cons]
      have h1 := ih (l.2.foldl (predStep l.1) d)
      have h2 := predStep_len l.1 l.2 d
      simp only [List.length_cons]
      omega
  exact this L [id]
theorem refDead_snoc (id : Int) (L : List (Int × List Int)) (l : Int × List Int) : refDead id (L ++ [l]) = l.2.foldl (predStep l.1) (refDead id L) := by
  unfold refDead
  rw [List.foldl_append]
  rfl

end Go.Proofs.Ytolihdcfhonfgaa
