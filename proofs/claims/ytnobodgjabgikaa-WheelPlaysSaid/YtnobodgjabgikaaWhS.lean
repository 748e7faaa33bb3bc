/- The wheel: slices.SortFunc at timers. -/
import Derived.Test.YtnobodgjabgikaaProg
import Derived.Test.YtnobodgjabgikaaWhC
import Derived.Test.YtnobodgjabgikaaShelf
namespace Go.Proofs.Ytnobodgjabgikaa
open Go.RowKit Go.Sort
set_option linter.unusedSimpArgs false
set_option linter.unusedVariables false

theorem ltOf_tcmp (x y : Tm) : ltOf tcmp x y = decide (tlt x y) := by
  unfold ltOf
  by_cases h : tlt x y
  · rw [decide_eq_true h, decide_eq_true ((tcmp_lt x y).2 h)]
  · rw [decide_eq_false h, decide_eq_false (fun e => h ((tcmp_lt x y).1 e))]
theorem swoT : SWO (ltOf tcmp) where
  irrefl x := by rw [ltOf_tcmp]; simp [tlt_irrefl]
  trans x y z h1 h2 := by rw [ltOf_tcmp] at *; simp at *; exact tlt_trans h1 h2
  ntrans x y z h1 h2 := by rw [ltOf_tcmp] at *; simp at *; unfold tlt at *; omega
def sortT (xs : List Tm) : List Tm := xs.mergeSort fun x y => !ltOf tcmp y x
theorem sortT_length (xs : List Tm) : (sortT xs).length = xs.length := List.length_mergeSort _
theorem sortT_perm (xs : List Tm) : (sortT xs).Perm xs := List.mergeSort_perm _ _
theorem sortT_sorted {xs : List Tm} (h : xs.Nodup) : (sortT xs).Pairwise tlt := by
  have h1 : (sortT xs).Pairwise (fun x y => (!ltOf tcmp y x) = true) := List.pairwise_mergeSort (by
    intro a b c; simp only [ltOf_tcmp]; simp; intro h1 h2 h3; unfold tlt at *; omega) (by
    intro a b; simp only [ltOf_tcmp]; simp; unfold tlt; omega) xs
  have h2 : (sortT xs).Nodup := (sortT_perm xs).nodup_iff.2 h
  refine (h1.and h2).imp (fun {a b} hab => ?_)
  have h3 := hab.1
  simp only [ltOf_tcmp] at h3
  simp at h3
  exact Classical.byContradiction fun hn => hab.2 (tlt_tri hn h3)

theorem flatK_tm (xs : List Tm) : flatK timerE 2 xs.toArray = (xs.flatMap timerE).toArray := by
  have hs : (flatK timerE 2 xs.toArray).size = (xs.flatMap timerE).toArray.size := by simp [flat_len timerE_len]
  refine ext_get! hs fun t ht => ?_
  have ht' : t < xs.toArray.size * 2 := by simpa using ht
  have ht2 : t < xs.length * 2 := by simpa using ht'
  rw [get_flatK timerE 2 xs.toArray t ht']
  have hi : t / 2 < xs.length := by omega
  have hg := flat_get timerE_len xs (t / 2) xs[t / 2] (t % 2) (List.getElem?_eq_getElem hi) (Nat.mod_lt _ (by omega))
  rw [Nat.div_add_mod' t 2] at hg
  have h1 : (xs.flatMap timerE).toArray[t]! = ((xs.flatMap timerE)[t]?).getD default := by simp [Array.getElem!_eq_getD, Array.getD_eq_getD_getElem?]
  rw [h1, hg]
  have h2 : xs.toArray[t / 2]! = xs[t / 2] := by simp [hi]
  rw [h2]
  simp

set_option maxHeartbeats 1000000 in
theorem sort_calls (g : Option Nat) (v : Value) (xs : List Tm) (w : World) (h : SlO w 33 2 timerE g v xs) (hn : xs.length ≤ 1000000) :
    Calls Try.prog 27 #[v, .func (.func 28) #[] #[]] w fun e w' => e = .returned (.tuple #[]) ∧ SlO w' 33 2 timerE g v (sortT xs) ∧ Ext (fun b => g = some b) w w' := by
  rcases h with ⟨rfl, rfl, rfl⟩ | ⟨b, o, c, cur, rfl, rfl, hh, hl, hm, hc, ht⟩
  · refine (AnyF.slices_SortFunc_none { Try.sortTm with } none 0 (.func (.func 28) #[] #[]) w).mono fun e w' ⟨he, hw⟩ => ?_
    subst hw
    exact ⟨he, .inl ⟨rfl, by simp [sortT], rfl⟩, Ext.refl _ _⟩
  · have hrow : Row w b o (xs.flatMap timerE) := SlO.row (A := none) (.inr ⟨b, o, c, cur, rfl, rfl, hh, hl, hm, hc, ht⟩) rfl
    have hH : HoldsK timerE 2 w b o xs.toArray := by
      unfold HoldsK
      rw [flatK_tm]
      intro j hj
      have hj' : j < (xs.flatMap timerE).length := by simpa using hj
      refine ⟨?_, by simp [World.frozen?, hh]⟩
      rw [hrow j _ (List.getElem?_eq_getElem hj')]
      simp [List.getElem?_eq_getElem hj']
    have eg : ∀ args w, (callFunc 28 args).run Try.prog w = .ok (.enter 28 args) w := compare_plain
    have hcmp : CmpLays Try.prog 28 #[] timerE 2 tcmp b o xs.toArray.size w := fun _ _ _ _ x y => compare_calls x y _
    have hcon := AnyQ.slices_SortFunc_total Try.sortTm 2 Try.isAgg33 Try.sizeOf33 timerE timerE_len (fun x v hv => timerE_one x v hv) tcmp swoT 28 #[] b o c xs.toArray w eg hcmp hH (lt_of_block hh) (by simp; omega) (fun x y h1 h2 => by
      rw [ltOf_tcmp] at h1 h2; simp at h1 h2; exact tlt_tri h1 h2)
    change Calls Try.prog 27 _ _ _ at hcon
    refine hcon.mono fun e w' ⟨he, n, os, hw⟩ => ?_
    have hw' : w' = grow (putRow id (Sort.ahead w n) b o ((sortT xs).flatMap timerE).toArray) os := by
      rw [hw, ← flatK_tm]; rfl
    clear hw
    subst hw'
    have hlt := lt_of_block hh
    have hsz : (putRow id (Sort.ahead w n) b o ((sortT xs).flatMap timerE).toArray).heap.size = w.heap.size := by simp [putRow, mapBlock, Sort.ahead]
    have hget : ∀ k, k < w.heap.size → (grow (putRow id (Sort.ahead w n) b o ((sortT xs).flatMap timerE).toArray) os).heap[k]? = if b = k then some (.cells (putCells id o ((sortT xs).flatMap timerE).toArray cur) 33 (0, 0)) else w.heap[k]? := by
      intro k hk
      show (_ ++ os)[k]? = _
      rw [Array.getElem?_append_left (by rw [hsz]; exact hk)]
      show (w.heap.modify b _)[k]? = _
      rw [Array.getElem?_modify]
      by_cases hbk : b = k
      · subst hbk; rw [if_pos rfl, if_pos rfl, hh]; rfl
      · rw [if_neg hbk, if_neg hbk]
    have hfl : ((sortT xs).flatMap timerE).length = xs.length * 2 := by rw [flat_len timerE_len, sortT_length]
    refine ⟨he, .inr ⟨b, o, c, putCells id o ((sortT xs).flatMap timerE).toArray cur, rfl, by rw [sortT_length], by rw [hget b hlt, if_pos rfl], by rw [sortT_length]; exact hl, hm, by simpa [putCells] using hc, ?_⟩, ?_⟩
    · rw [sortT_length]
      apply List.ext_getElem?
      intro j
      rw [List.getElem?_take]
      by_cases hj : j < xs.length * 2
      · rw [if_pos hj, List.getElem?_drop]
        have hoc : o + j < cur.size := by have := Nat.mul_le_mul_right 2 hl; omega
        have hj2 : j < ((sortT xs).flatMap timerE).length := by rw [hfl]; exact hj
        simp only [putCells, Array.getElem?_toList, Array.getElem?_mapIdx, Array.getElem?_eq_getElem hoc, Option.map_some]
        rw [if_pos ⟨by omega, by simp [hfl]; omega⟩, show o + j - o = j by omega]
        simp [List.getElem?_eq_getElem hj2]
      · rw [if_neg hj]
        rw [List.getElem?_eq_none (by rw [hfl]; omega)]
    · refine ⟨rfl, rfl, rfl, ?_, fun k hk hn' => ?_⟩
      · show _ ≤ (_ ++ os).size
        rw [Array.size_append, hsz]; omega
      · rw [hget k hk, if_neg (fun e => hn' (by rw [e]))]

end Go.Proofs.Ytnobodgjabgikaa
