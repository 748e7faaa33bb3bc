/- The law DagOnce: arrays, and what each waits for. -/
import Derived.Test.YtolihdcfhonfgaaProg
import Derived.Test.YtolihdcfhonfgaaDagL3
namespace Go.Proofs.Ytolihdcfhonfgaa
open Go.RowKit
set_option linter.unusedSimpArgs false
set_option linter.unusedVariables false

/-- Block b holds these n cells; none is frozen. -/
def Ar (w : World) (b n : Nat) (f : Nat → Value) : Prop := ∀ j, j < n → w.cell? ⟨b, j, none⟩ = some (f j) ∧ w.frozen? ⟨b, j, none⟩ = false

theorem Ar.keep {F : Nat → Prop} {w w' : World} {b n : Nat} {f : Nat → Value} (h : Ar w b n f) (x : Ext F w w') (hn : ¬ F b) : Ar w' b n f := fun j hj =>
  ⟨x.cell (h j hj).1 hn, (World.frozen?_of_block (w := w) (x.block b (World.block_lt_of_cell? w ⟨b, j, none⟩ (h j hj).1) hn)).trans (h j hj).2⟩
theorem Ar.set {w : World} {b n : Nat} {f : Nat → Value} (h : Ar w b n f) {j : Nat} (hj : j < n) (v : Value) : Ar (w.setCell ⟨b, j, none⟩ v) b n (fun i => if i = j then v else f i) := by
  intro i hi
  refine ⟨?_, (World.frozen?_setCell w ⟨b, j, none⟩ _ v).trans (h i hi).2⟩
  by_cases hij : i = j
  · subst hij
    simp only [if_true]
    exact World.cell?_setCell_same w _ v (h i hi).1
  · simp only [if_neg hij]
    rw [World.cell?_setCell_other _ _ _ _ (fun e => by injection e with e1 e2 e3; exact hij e2.symm)]
    exact (h i hi).1
theorem Ar.congr {w : World} {b n : Nat} {f f' : Nat → Value} (h : Ar w b n f) (he : ∀ j, j < n → f j = f' j) : Ar w b n f' := fun j hj => by
  rw [← he j hj]
  exact h j hj
theorem Ar.block {w : World} {b n : Nat} {f : Nat → Value} {cs : Array Value} {E : TypeId} (h : w.heap[b]? = some (.cells cs E (0, 0))) (hf : ∀ j, j < n → cs[j]? = some (f j)) : Ar w b n f := fun j hj =>
  ⟨by rw [cell_of_row w b j cs E (0, 0) h]; exact hf j hj, by simp [World.frozen?, h]⟩

/-- Block b holds n slices that read as these lists; where they are not empty they lie behind b. -/
def ArS (w : World) (b n : Nat) (W : Nat → List Int) : Prop :=
  ∃ V, Ar w b n V ∧ ∀ j, j < n → ∃ A c b' o, V j = .slice A (W j).length c ∧ SlR w 1 intE A c b' o (W j) ∧ (0 < (W j).length → b < b')

theorem ArS.keep {F : Nat → Prop} {w w' : World} {b n : Nat} {W : Nat → List Int} (h : ArS w b n W) (x : Ext F w w') (hn : ∀ q, b ≤ q → ¬ F q) : ArS w' b n W := by
  obtain ⟨V, h1, h2⟩ := h
  refine ⟨V, h1.keep x (hn b (Nat.le_refl _)), fun j hj => ?_⟩
  obtain ⟨A, c, b', o, h3, h4, h5⟩ := h2 j hj
  exact ⟨A, c, b', o, h3, h4.keep x (fun hp => hn b' (Nat.le_of_lt (h5 hp))), h5⟩
theorem ArS.congr {w : World} {b n : Nat} {W W' : Nat → List Int} (h : ArS w b n W) (he : ∀ j, j < n → W j = W' j) : ArS w b n W' := by
  obtain ⟨V, h1, h2⟩ := h
  refine ⟨V, h1, fun j hj => ?_⟩
  rw [← he j hj]
  exact h2 j hj

/-- The numbers from 1 to m - 1 that f tells. -/
def wl (f : Nat → Bool) (m : Nat) : List Int := ((List.range m).filter (fun j => decide (1 ≤ j) && f j)).map (fun (j : Nat) => (j : Int))
theorem wl_succ (f : Nat → Bool) (m : Nat) (hm : 1 ≤ m) : wl f (m + 1) = wl f m ++ (if f m then [(m : Int)] else []) := by
  unfold wl
  rw [List.range_succ, List.filter_append, List.map_append]
  congr 1
  by_cases hf : f m = true <;> simp [List.filter_cons, hm, hf]
theorem wl_one (f : Nat → Bool) : wl f 1 = [] := by simp [wl, List.range_succ]
theorem wl_len (f : Nat → Bool) (m : Nat) : (wl f m).length ≤ m := by
  unfold wl
  rw [List.length_map]
  exact Nat.le_trans (List.length_filter_le _ _) (by simp)
theorem wl_sorted (f : Nat → Bool) (m : Nat) : (wl f m).Pairwise (· < ·) := by
  unfold wl
  rw [List.pairwise_map]
  exact ((List.pairwise_lt_range (n := m)).sublist List.filter_sublist).imp (fun h => by omega)
theorem wl_mem (f : Nat → Bool) (m : Nat) (x : Int) (h : x ∈ wl f m) : 1 ≤ x ∧ x < m := by
  unfold wl at h
  simp only [List.mem_map, List.mem_filter, List.mem_range, Bool.and_eq_true, decide_eq_true_eq] at h
  obtain ⟨j, ⟨h1, h2, _⟩, rfl⟩ := h
  omega

def bitAt (xs : List Int) (k : Nat) (j : Nat) : Bool := bits .and .i64 ((xs[k]?.getD 0) / 2 ^ j) 1 == 1
/-- What task i waits for. -/
def onL (xs : List Int) (i : Nat) : List Int := wl (bitAt xs (i - 1)) i
def onS (W : Nat → List Int) (k j : Nat) : Int := if 1 ≤ j ∧ j ≤ k ∧ W j = [] then 1 else 0
def onW (W : Nat → List Int) (k j : Nat) : List Int := if 1 ≤ j ∧ j ≤ k then W j else []
theorem onS_old (W : Nat → List Int) {k j : Nat} (h : j ≠ k + 1) : onS W (k + 1) j = onS W k j := by
  unfold onS
  have : (1 ≤ j ∧ j ≤ k + 1 ∧ W j = []) ↔ (1 ≤ j ∧ j ≤ k ∧ W j = []) := by
    constructor <;> rintro ⟨h1, h2, h3⟩ <;> exact ⟨h1, by omega, h3⟩
  simp only [this]
theorem onS_new (W : Nat → List Int) (k : Nat) : onS W (k + 1) (k + 1) = if W (k + 1) = [] then 1 else 0 := by
  unfold onS
  have : (1 ≤ k + 1 ∧ k + 1 ≤ k + 1 ∧ W (k + 1) = []) ↔ W (k + 1) = [] := ⟨fun h => h.2.2, fun h => ⟨by omega, by omega, h⟩⟩
  simp only [this]
theorem onW_old (W : Nat → List Int) {k j : Nat} (h : j ≠ k + 1) : onW W (k + 1) j = onW W k j := by
  unfold onW
  have : (1 ≤ j ∧ j ≤ k + 1) ↔ (1 ≤ j ∧ j ≤ k) := by omega
  simp only [this]
theorem onW_new (W : Nat → List Int) (k : Nat) : onW W (k + 1) (k + 1) = W (k + 1) := by
  unfold onW
  rw [if_pos (by omega)]

/-- Who waits for whom, of what 'W' tells up to k. -/
def OnE (W : Nat → List Int) (k : Nat) (p x : Int) : Prop := 1 ≤ x ∧ x ≤ k ∧ p ∈ W x.toNat

end Go.Proofs.Ytolihdcfhonfgaa
