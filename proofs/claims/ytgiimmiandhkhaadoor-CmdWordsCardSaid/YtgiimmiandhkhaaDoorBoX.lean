/- The bodies: the reference's OpOk, BodyOk, Steps. -/
import Derived.Test.YtgiimmiandhkhaaDoorProg
import Derived.Test.YtgiimmiandhkhaaDoorBoU
namespace Go.Proofs.YtgiimmiandhkhaaDoor
open Go.RowKit
set_option linter.unusedSimpArgs false
set_option linter.unusedVariables false

theorem fitsK1 (a b : Int) : fitsB ⟨1, a, b⟩ = (a == 0 && b == 0) := by
  rw [Bool.eq_iff_iff]
  simp only [fitsB, Bool.and_eq_true, decide_eq_true_iff, beq_iff_eq, show spanOf 1 0 = (0, 0) by decide, show spanOf 1 1 = (0, 0) by decide]
  omega
theorem fitsK5 (a b : Int) : fitsB ⟨5, a, b⟩ = (a == 0 && b == 0) := by
  rw [Bool.eq_iff_iff]
  simp only [fitsB, Bool.and_eq_true, decide_eq_true_iff, beq_iff_eq, show spanOf 5 0 = (0, 0) by decide, show spanOf 5 1 = (0, 0) by decide]
  omega
theorem fitsK2 (a b : Int) : fitsB ⟨2, a, b⟩ = (decide (0 ≤ a) && decide (a ≤ 7) && (b == 0)) := by
  rw [Bool.eq_iff_iff]
  simp only [fitsB, Bool.and_eq_true, decide_eq_true_iff, beq_iff_eq, show spanOf 2 0 = (0, 7) by decide, show spanOf 2 1 = (0, 0) by decide]
  omega
theorem fitsK3 (a b : Int) : fitsB ⟨3, a, b⟩ = (decide (0 ≤ a) && decide (a ≤ 7) && decide (0 ≤ b) && decide (b ≤ 1000000)) := by
  rw [Bool.eq_iff_iff]
  simp only [fitsB, Bool.and_eq_true, decide_eq_true_iff, beq_iff_eq, show spanOf 3 0 = (0, 7) by decide, show spanOf 3 1 = (0, 1000000) by decide]
  omega
theorem fitsK4 (a b : Int) : fitsB ⟨4, a, b⟩ = (decide (1 ≤ a) && decide (a ≤ 1000) && (b == 0)) := by
  rw [Bool.eq_iff_iff]
  simp only [fitsB, Bool.and_eq_true, decide_eq_true_iff, beq_iff_eq, show spanOf 4 0 = (1, 1000) by decide, show spanOf 4 1 = (0, 0) by decide]
  omega
theorem fitsK0 (k a b : Int) (h : ¬ (k = 1 ∨ k = 2 ∨ k = 3 ∨ k = 4 ∨ k = 5)) : fitsB ⟨k, a, b⟩ = false := by
  rw [Bool.eq_false_iff]
  intro hc
  have := fits_bnd hc
  dsimp only at this
  omega

end Go.Proofs.YtgiimmiandhkhaaDoor
