/- slices.Sort of whole numbers, over a slice that is owned; slices.Clip. -/
import Derived.Test.YtolihdcfhonfgaaSl
import Derived.Test.YtolihdcfhonfgaaShelf
namespace Go.Proofs.Ytolihdcfhonfgaa
open Go.RowKit Go.Sort
set_option linter.unusedSimpArgs false
set_option linter.unusedVariables false

def sortI (xs : List Int) : List Int := xs.mergeSort fun x y => decide (x ≤ y)
theorem sortI_length (xs : List Int) : (sortI xs).length = xs.length := List.length_mergeSort _
theorem sortI_perm (xs : List Int) : (sortI xs).Perm xs := List.mergeSort_perm _ _
theorem sortI_sorted (xs : List Int) : (sortI xs).Pairwise (· ≤ ·) := by
  have := List.pairwise_mergeSort (le := fun x y : Int => decide (x ≤ y)) (fun a b c h1 h2 => by simp at *; omega) (fun a b => by simp; omega) xs
  exact this.imp (fun h => by simpa using h)

theorem flat_intE (xs : List Int) : xs.flatMap intE = xs.map (Value.int .i64) := by
  induction xs with
  | nil => rfl
  | cons x xs ih => rw [List.flatMap_cons, ih]; rfl

theorem getElem!_toArray (zs : List Int) (j : Nat) (h : j < zs.length) : zs.toArray[j]! = zs[j] := by
  rw [getElem!_pos zs.toArray j (by simpa using h)]
  simp

theorem sort_calls (g : Option Nat) (v : Value) (xs : List Int) (w : World) (h : SlO w 3 1 intE g v xs) (hn : xs.length < 4611686018427387904) :
    Calls Try.prog 35 #[v] w fun e w' => e = .returned (.tuple #[]) ∧ SlO w' 3 1 intE g v (sortI xs) ∧ Ext (fun b => g = some b) w w' := by
  rcases h with ⟨rfl, rfl, rfl⟩ | ⟨b, o, c, cur, rfl, rfl, hh, hl, hm, hc, ht⟩
  · refine (Try.slices_Sort_int_none none 0 w).mono fun e w' ⟨he, hw⟩ => ?_
    subst hw
    exact ⟨he, .inl ⟨rfl, by simp [sortI], rfl⟩, Ext.refl _ _⟩
  · have hrow : Row w b o (xs.flatMap intE) := SlO.row (A := none) (.inr ⟨b, o, c, cur, rfl, rfl, hh, hl, hm, hc, ht⟩) rfl
    rw [flat_intE] at hrow ht
    simp only [Nat.mul_one] at hc ht
    have hH : Holds (Value.int .i64) w b o xs.toArray := by
      intro j hj
      have hj' : j < xs.length := by simpa using hj
      refine ⟨?_, by simp [World.frozen?, hh]⟩
      rw [getElem!_toArray xs j hj']
      exact hrow j _ (by simp [hj'])
    refine (Try.slices_Sort_int b o c xs w hH (lt_of_block hh) hn).mono fun e w' ⟨he, n, os, hw⟩ => ?_
    have hw' : w' = grow (putRow (Value.int .i64) (Sort.ahead w n) b o (sortI xs).toArray) os := hw
    clear hw
    subst hw'
    have hlt := lt_of_block hh
    have hsz : (putRow (Value.int .i64) (Sort.ahead w n) b o (sortI xs).toArray).heap.size = w.heap.size := by simp [putRow, mapBlock, Sort.ahead]
    have hget : ∀ k, k < w.heap.size → (grow (putRow (Value.int .i64) (Sort.ahead w n) b o (sortI xs).toArray) os).heap[k]? = if b = k then some (.cells (putCells (Value.int .i64) o (sortI xs).toArray cur) 3 (0, 0)) else w.heap[k]? := by
      intro k hk
      show (_ ++ os)[k]? = _
      rw [Array.getElem?_append_left (by rw [hsz]; exact hk)]
      show (w.heap.modify b _)[k]? = _
      rw [Array.getElem?_modify]
      by_cases hbk : b = k
      · subst hbk; rw [if_pos rfl, if_pos rfl, hh]; rfl
      · rw [if_neg hbk, if_neg hbk]
    refine ⟨he, .inr ⟨b, o, c, putCells (Value.int .i64) o (sortI xs).toArray cur, rfl, by rw [sortI_length], by rw [hget b hlt, if_pos rfl], by rw [sortI_length]; exact hl, hm, by simpa [putCells] using hc, ?_⟩, ?_⟩
    · rw [flat_intE, sortI_length, Nat.mul_one]
      apply List.ext_getElem?
      intro j
      rw [List.getElem?_take]
      by_cases hj : j < xs.length
      · rw [if_pos hj, List.getElem?_drop]
        have hoc : o + j < cur.size := by omega
        have hj2 : j < (sortI xs).length := by rw [sortI_length]; exact hj
        simp only [putCells, Array.getElem?_toList, Array.getElem?_mapIdx, Array.getElem?_eq_getElem hoc, Option.map_some]
        rw [if_pos ⟨by omega, by simp [sortI_length]; omega⟩, show o + j - o = j by omega, getElem!_toArray _ j hj2]
        simp [hj2]
      · rw [if_neg hj]
        have : (sortI xs)[j]? = none := by rw [List.getElem?_eq_none]; rw [sortI_length]; omega
        simp [this]
    · refine ⟨rfl, rfl, rfl, ?_, fun k hk hn' => ?_⟩
      · show _ ≤ (_ ++ os).size
        rw [Array.size_append, hsz]; omega
      · rw [hget k hk, if_neg (fun e => hn' (by rw [e]))]

/-- slices.Clip: the same, its room cut. -/
theorem clip_calls (g : Option Nat) (v : Value) (xs : List Int) (w : World) (h : SlO w 3 1 intE g v xs) :
    Calls Try.prog 26 #[v] w fun e w' => ∃ v', e = .returned v' ∧ SlO w' 3 1 intE g v' xs ∧ w = w' := by
  rcases h with ⟨rfl, rfl, rfl⟩ | ⟨b, o, c, cur, rfl, rfl, hh, hl, hm, hc, ht⟩
  · go_enter Try.func26, Try.ntmps26
    go_wp2
    go_ret
    exact ⟨_, rfl, .inl ⟨rfl, rfl, rfl⟩, rfl⟩
  · unfold maxLen at hm
    go_enter Try.func26, Try.ntmps26
    go_wp2
    go_ret
    refine ⟨_, rfl, .inr ⟨b, o, xs.length, cur, rfl, rfl, hh, Nat.le_refl _, by unfold maxLen; omega, by omega, ht⟩, rfl⟩

end Go.Proofs.Ytolihdcfhonfgaa
