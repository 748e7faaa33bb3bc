/- Arrays and slices of one cell an element, by their cells. -/
import Derived.Test.YtnobodgjabgikaaSl
import Derived.OwnWalk
import Derived.Laws.OwnMore
namespace Go.Proofs.Ytnobodgjabgikaa
open Go.RowKit
set_option linter.unusedSimpArgs false
set_option linter.unusedVariables false

/-- Block b holds these n cells; none is frozen. -/
def Ar (w : World) (b n : Nat) (f : Nat → Value) : Prop := ∀ j, j < n → w.cell? ⟨b, j, none⟩ = some (f j) ∧ w.frozen? ⟨b, j, none⟩ = false

theorem Ar.keep {F : Nat → Prop} {w w' : World} {b n : Nat} {f : Nat → Value} (h : Ar w b n f) (x : Ext F w w') (hn : 0 < n → ¬ F b) : Ar w' b n f := fun j hj =>
  ⟨x.cell (h j hj).1 (hn (by omega)), (World.frozen?_of_block (w := w) (x.block b (World.block_lt_of_cell? w ⟨b, j, none⟩ (h j hj).1) (hn (by omega)))).trans (h j hj).2⟩
theorem Ar.set {w : World} {b n : Nat} {f : Nat → Value} (h : Ar w b n f) {j : Nat} (hj : j < n) (v : Value) : Ar (w.setCell ⟨b, j, none⟩ v) b n (fun i => if i = j then v else f i) := by
  intro i hi
  refine ⟨?_, (World.frozen?_setCell w ⟨b, j, none⟩ _ v).trans (h i hi).2⟩
  by_cases hij : i = j
  · subst hij
    simp only [if_true]
    exact World.cell?_setCell_same w _ v (h i hi).1
  · simp only [if_neg hij]
    rw [World.cell?_setCell_other _ _ _ _ (fun e => by injection e with e1 e2 e3; exact hij e2.symm)]
    exact (h i hi).1
theorem Ar.congr {w : World} {b n : Nat} {f f' : Nat → Value} (h : Ar w b n f) (he : ∀ j, j < n → f j = f' j) : Ar w b n f' := fun j hj => by
  rw [← he j hj]
  exact h j hj
theorem Ar.block {w : World} {b n : Nat} {f : Nat → Value} {cs : Array Value} {E : TypeId} (h : w.heap[b]? = some (.cells cs E (0, 0))) (hf : ∀ j, j < n → cs[j]? = some (f j)) : Ar w b n f := fun j hj =>
  ⟨by rw [cell_of_row w b j cs E (0, 0) h]; exact hf j hj, by simp [World.frozen?, h]⟩
theorem Ar.lt {w : World} {b n : Nat} {f : Nat → Value} (h : Ar w b n f) (hn : 0 < n) : b < w.heap.size := World.block_lt_of_cell? w ⟨b, 0, none⟩ (h 0 hn).1

theorem ext_of_grown {w w' : World} {r : Option Nat} (h : w.grownBy w' r) : Ext (fun b => r = some b) w w' :=
  ⟨h.os, h.tape, h.output, h.size, fun k hk hn => h.block k hk (fun e => hn e.symm)⟩

/-- make([]T, n), n a variable. -/
theorem wpList_makeAr {P : Program} (w : World) {ops : Array Oper} {rest : List Oper} {o : Oper} {a : Act} {Q : Exit → Act → World → Prop} (hg : o.guard = none) (l c : Operand) (t : TypeId) (hop : o.op = Op.makeSlice t l c)
    {e : TypeId} {z : Value} {bytes : Nat} (h1 : P.underlying t = some (.slice e)) (hz : (P.info? e).map (fun i => (i.zero, i.size, i.bytes)) = some (some z, 1, bytes)) (hz1 : z.cells = #[z])
    (n : Nat) (hl : a.eval l = .int .i64 (n : Int)) (hc : a.eval c = .int .i64 (n : Int)) (b2 : bytes * n ≤ 281474976710656) (b3 : n ≤ maxLen)
    (hK : ∀ w', Ar w' w.heap.size n (fun _ => z) → Ext NoB w w' → wpList P ops Q rest (a.put o.dst (.slice (some ⟨w.heap.size, 0, none⟩) n n)) w') : wpList P ops Q (o :: rest) a w := by
  obtain ⟨i, hi, hz', hs, hb⟩ := info_parts hz
  refine wpList_make_full w hg l c t hop 0 e i z 1 h1 hi hz' hs .i64 .i64 n n n hl hc rfl rfl (by rw [hb]; exact b2) b3 (Nat.zero_le _) (fun w' h g => hK w' (fun j hj => ?_) ((ext_of_grown g).mono (fun q _ e => by cases e)))
  refine ⟨?_, h.frozenAt j⟩
  rw [h.cellAt j (by omega)]
  simp [madeCells, hz1, hj, Nat.mod_one]

end Go.Proofs.Ytnobodgjabgikaa
