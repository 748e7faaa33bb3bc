/- The commands: the document's Parse. Printed by gen-cmj.py. -/
import Derived.Test.YtgiimmiandhkhaaDoorProg
import Derived.Test.YtgiimmiandhkhaaDoorCmI
namespace Go.Proofs.YtgiimmiandhkhaaDoor
open Go.RowKit
set_option linter.unusedSimpArgs false
set_option linter.unusedVariables false

def formsL : List (List UInt8) := [cmForm 1, cmForm 2, cmForm 3, cmForm 4, cmForm 5, cmForm 6, cmForm 7, cmForm 8, cmForm 9, cmForm 10, cmForm 11, cmForm 12, cmForm 13, cmForm 14]
theorem forms_get (i : Nat) (h : i < 14) : formsL[i]? = some (cmForm (i + 1)) := by
  have : i = 0 ∨ i = 1 ∨ i = 2 ∨ i = 3 ∨ i = 4 ∨ i = 5 ∨ i = 6 ∨ i = 7 ∨ i = 8 ∨ i = 9 ∨ i = 10 ∨ i = 11 ∨ i = 12 ∨ i = 13 := by omega
  rcases this with rfl | rfl | rfl | rfl | rfl | rfl | rfl | rfl | rfl | rfl | rfl | rfl | rfl | rfl <;> rfl
theorem SlR.made {α : Type} {w : World} {k : Nat} {enc : α → List Value} {xs : List α} {E : TypeId} {b : Nat} {cs : Array Value} (h : w.heap[b]? = some (.cells cs E (0, 0))) (hcs : cs.toList = xs.flatMap enc) (hm : xs.length ≤ maxLen) : SlR w k enc (some ⟨b, 0, none⟩) xs.length b 0 xs := by
  refine ⟨fun _ => rfl, Nat.le_refl _, hm, fun j u hu => ?_⟩
  rw [cell_of_row w b (0 + j) _ _ (0, 0) h, Nat.zero_add, ← hu, ← hcs]
  simp
def strLen : Value → Nat | .string s => s.size | _ => 0
theorem takeV_keeps {c c' : Cm} {f : UInt8} {w : List UInt8} (h : takeV c f w = some c') : c'.k = c.k ∧ c'.preds.length ≤ c.preds.length + 1 := by
  unfold takeV at h
  split at h
  · split at h
    · cases h; exact ⟨rfl, by simp⟩
    · cases h
  · split at h
    · obtain ⟨v, _, rfl⟩ := Option.map_eq_some_iff.1 h; exact ⟨rfl, by simp⟩
    · split at h
      · obtain ⟨v, _, rfl⟩ := Option.map_eq_some_iff.1 h; exact ⟨rfl, by simp⟩
      · split at h
        · obtain ⟨v, _, rfl⟩ := Option.map_eq_some_iff.1 h; exact ⟨rfl, by simp⟩
        · split at h
          · obtain ⟨v, _, rfl⟩ := Option.map_eq_some_iff.1 h; exact ⟨rfl, by simp⟩
          · split at h
            · obtain ⟨v, _, rfl⟩ := Option.map_eq_some_iff.1 h; exact ⟨rfl, by simp⟩
            · split at h
              · obtain ⟨v, _, rfl⟩ := Option.map_eq_some_iff.1 h; exact ⟨rfl, by simp⟩
              · obtain ⟨v, _, rfl⟩ := Option.map_eq_some_iff.1 h; exact ⟨rfl, by simp⟩
theorem form_last (k : Nat) (h1 : k ≠ 1) : ∀ F x, cmForm k = F ++ [x] → x ≠ 108 := by
  intro F x h
  have hx : x ∈ cmForm k := by rw [h]; simp
  intro e
  subst e
  unfold cmForm at hx
  split at hx <;> first | exact h1 rfl | exact absurd hx (by decide)
theorem grown_sign (k n : Nat) : ∀ f ∈ grown k n, f = 116 ∨ f = 112 ∨ f = 98 ∨ f = 105 ∨ f = 110 ∨ f = 109 ∨ f = 108 := by
  intro f hf
  unfold grown at hf
  split at hf
  · rcases List.mem_append.1 hf with hf | hf
    · simp at hf; rcases hf with rfl | rfl | rfl <;> simp
    · rw [(List.mem_replicate.1 hf).2]; simp
  · unfold cmForm at hf
    split at hf <;> simp at hf <;> (try (rcases hf with rfl | rfl | rfl | rfl | rfl <;> simp)) <;> (try (rcases hf with rfl | rfl | rfl | rfl <;> simp)) <;> (try (rcases hf with rfl | rfl | rfl <;> simp)) <;> (try (rcases hf with rfl | rfl <;> simp)) <;> (try (subst hf; simp))
theorem grown_le (k n : Nat) : (grown k n).length ≤ 19 := by
  unfold grown
  split
  · simp; omega
  · have := form_le k; omega

end Go.Proofs.YtgiimmiandhkhaaDoor
