/- A slice of integers among the arguments. -/
import Derived.Test.YtolihdcfhonfgaaRow
import Derived.Test.YtolihdcfhonfgaaSort
namespace Go.Proofs.Ytolihdcfhonfgaa
open Go.ChangeShapes Go.WideShapes Go.ChangeAt Go.RowKit
set_option linter.unusedSimpArgs false
set_option linter.unusedVariables false

/-- Opened; and shut again in whatever world keeps what was there. -/
theorem ints_arg {H : Type} {enc : TypeId × Value → H} {P : Program} {W : World} {r : Reach} {b0 : Nat} {t e : TypeId} {v : Value} {d : DataW H} {ps : List MemPlace} (ht : P.underlying t = some (.slice e)) (he : P.underlying e = some (.int .i64)) (hc : P.cellsOf e = 1)
    (hval : Value.okWide P W r b0 t v) (h : DataW.Trod enc P W 0 (fun _ => true) true t v d ps) :
    ∃ A c b o xs, v = .slice A xs.length c ∧ SlR W 1 intE A c b o xs ∧ ∀ W', Ext NoB W W' → DataW.Trod enc P W' 0 (fun b => decide (b < W.heap.size)) true t v d ps := by
  obtain ⟨a0, len0, cap0, rfl⟩ := okWide_slice ht hval
  obtain ⟨fuel, hf⟩ := h
  rcases open_ints ht he hc hf with ⟨hcs, hx⟩ | ⟨a, len, cap, zs, hcs, _, hl, hm, hz, hx, hcell, hwz⟩
  · simp only [Value.cells, Prod.mk.injEq] at hcs hx
    obtain ⟨rfl, rfl⟩ := hx
    simp at hcs
    obtain ⟨rfl, rfl, rfl⟩ := hcs
    exact ⟨none, 0, 0, 0, [], rfl, ⟨by simp, by simp, by simp [maxLen], by intro j u hu; simp at hu⟩, fun W' _ => shut_slice_nil ht⟩
  · simp [Value.cells] at hcs
    obtain ⟨rfl, rfl, rfl⟩ := hcs
    simp only [Prod.mk.injEq] at hx
    obtain ⟨rfl, rfl⟩ := hx
    simp only [if_true] at hz
    have hlen : (zs.take len0).length = len0 := by rw [List.length_take]; omega
    have hspot : 0 < zs.length → a = ⟨a.block, a.off, none⟩ := fun hp => by
      obtain ⟨b, o, s⟩ := a
      have : s = none := by simpa [Addr.add] using World.cell?_spot (hcell 0 hp)
      rw [this]
    refine ⟨some a, cap0, a.block, a.off, zs.take len0, by rw [hlen], ⟨fun hp => ?_, by rw [hlen]; exact hl, hm, ?_⟩, fun W' hW' => ?_⟩
    · rw [hlen] at hp
      rw [← hspot (by omega)]
    · intro j u hu
      rw [flat_intE, List.getElem?_map] at hu
      cases hj : (zs.take len0)[j]? with
      | none => rw [hj] at hu; simp at hu
      | some z =>
        rw [hj] at hu
        simp only [Option.map_some, Option.some.injEq] at hu
        subst hu
        have hjl := (List.getElem?_eq_some_iff.1 hj).1
        rw [hlen] at hjl
        have hc1 := hcell j (by omega)
        rw [hspot (by omega), add_plain] at hc1
        rw [hc1]
        rw [List.getElem?_take, if_pos hjl] at hj
        simp [List.getD, hj]
    · have hsp : zs.length = (if decide (a.block < W.heap.size) then cap0 else len0) := by
        by_cases hp : 0 < zs.length
        · have hb := World.block_lt_of_cell? W _ (hcell 0 hp)
          have hb' : a.block < W.heap.size := by
            obtain ⟨b, o, s⟩ := a
            simpa [Addr.add] using hb
          simp [hb', hz]
        · split <;> omega
      have t0 := shut_ints (enc := enc) (P := P) (w := W') (base := 0) (spare := fun b => decide (b < W.heap.size)) (held := true) (a := a) (len := len0) (cap := cap0) (zs := zs) 0 ht he hc (Nat.zero_le _) hl hm hsp (fun i hi => hW'.cell (hcell i hi) nb) hwz
      exact ⟨2, by simpa [Value.cells] using t0⟩

end Go.Proofs.Ytolihdcfhonfgaa
