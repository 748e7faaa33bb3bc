/- A slice of numbers of a kind among the arguments. -/
import Derived.Test.YtnobodgjabgikaaRow
import Derived.Deep.Strs
import Derived.Carry
namespace Go.Proofs.Ytnobodgjabgikaa
open Go.ChangeShapes Go.WideShapes Go.ChangeAt Go.RowKit
set_option linter.unusedSimpArgs false
set_option linter.unusedVariables false

def kE (k : IntKind) (x : Int) : List Value := [.int k x]
theorem flat_kE (k : IntKind) (l : List Int) : l.flatMap (kE k) = l.map (Value.int k) := by
  induction l with
  | nil => rfl
  | cons x l ih => simp [kE, ih]

theorem nums_arg {H : Type} {enc : TypeId × Value → H} {P : Program} {W : World} {r : Reach} {b0 : Nat} {t e : TypeId} {k : IntKind} {v : Value} {d : DataW H} {ps : List MemPlace} (ht : P.underlying t = some (.slice e)) (he : P.underlying e = some (.int k)) (hc : P.cellsOf e = 1)
    (hval : Value.okWide P W r b0 t v) (h : DataW.Trod enc P W 0 (fun _ => true) true t v d ps) :
    ∃ A c b o xs, v = .slice A xs.length c ∧ SlR W 1 (kE k) A c b o xs ∧ ∀ z ∈ xs, (Lit.int k z).wf = true := by
  obtain ⟨a0, len0, cap0, rfl⟩ := okWide_slice ht hval
  obtain ⟨fuel, hf⟩ := h
  rcases open_ints ht he hc hf with ⟨hcs, hx⟩ | ⟨a, len, cap, zs, hcs, _, hl, hm, hz, hx, hcell, hwz⟩
  · simp only [Value.cells, Prod.mk.injEq] at hcs hx
    simp at hcs
    obtain ⟨rfl, rfl, rfl⟩ := hcs
    exact ⟨none, 0, 0, 0, [], rfl, ⟨by simp, by simp, by simp [maxLen], by intro j u hu; simp at hu⟩, by simp⟩
  · simp [Value.cells] at hcs
    obtain ⟨rfl, rfl, rfl⟩ := hcs
    simp only [if_true] at hz
    have hlen : (zs.take len0).length = len0 := by rw [List.length_take]; omega
    have hspot : 0 < zs.length → a = ⟨a.block, a.off, none⟩ := fun hp => by
      obtain ⟨b, o, s⟩ := a
      have : s = none := by simpa [Addr.add] using World.cell?_spot (hcell 0 hp)
      rw [this]
    refine ⟨some a, cap0, a.block, a.off, zs.take len0, by rw [hlen], ⟨fun hp => ?_, by rw [hlen]; exact hl, hm, ?_⟩, fun z hz => hwz z (List.mem_of_mem_take hz)⟩
    · rw [hlen] at hp
      rw [← hspot (by omega)]
    · intro j u hu
      rw [flat_kE, List.getElem?_map] at hu
      cases hj : (zs.take len0)[j]? with
      | none => rw [hj] at hu; simp at hu
      | some z =>
        rw [hj] at hu
        simp only [Option.map_some, Option.some.injEq] at hu
        subst hu
        have hjl := (List.getElem?_eq_some_iff.1 hj).1
        rw [hlen] at hjl
        have hc1 := hcell j (by omega)
        rw [hspot (by omega)] at hc1
        have hadd : (⟨a.block, a.off, none⟩ : Addr).add j = ⟨a.block, a.off + j, none⟩ := Addr.add_lit ..
        rw [hadd] at hc1
        rw [hc1]
        rw [List.getElem?_take, if_pos hjl] at hj
        simp [List.getD, hj]
theorem ints_arg2 {H : Type} {enc : TypeId × Value → H} {P : Program} {W : World} {r : Reach} {b0 : Nat} {t e : TypeId} {v : Value} {d : DataW H} {ps : List MemPlace} (ht : P.underlying t = some (.slice e)) (he : P.underlying e = some (.int .i64)) (hc : P.cellsOf e = 1)
    (hval : Value.okWide P W r b0 t v) (h : DataW.Trod enc P W 0 (fun _ => true) true t v d ps) :
    ∃ A c b o xs, v = .slice A xs.length c ∧ SlR W 1 intE A c b o xs ∧ ∀ z ∈ xs, (Lit.int .i64 z).wf = true := nums_arg ht he hc hval h

end Go.Proofs.Ytnobodgjabgikaa
