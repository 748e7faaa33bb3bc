/- A slice of uint64 among the arguments. -/
import Derived.Test.YtnobodgjabgikaaRow
import Derived.Test.YtnobodgjabgikaaWhN
import Derived.Deep.Strs
import Derived.Carry
namespace Go.Proofs.Ytnobodgjabgikaa
open Go.ChangeShapes Go.WideShapes Go.ChangeAt Go.RowKit
set_option linter.unusedSimpArgs false
set_option linter.unusedVariables false

theorem nat_wf {z : Int} (h : (Lit.int .u64 z).wf = true) : 0 ≤ z ∧ z < 18446744073709551616 := by
  simp only [Lit.wf, Bool.and_eq_true, decide_eq_true_iff] at h
  rw [show IntKind.u64.min = 0 from rfl, show IntKind.u64.max = 18446744073709551615 from rfl] at h
  omega

theorem nats_arg {H : Type} {enc : TypeId × Value → H} {P : Program} {W : World} {r : Reach} {b0 : Nat} {t e : TypeId} {v : Value} {d : DataW H} {ps : List MemPlace} (ht : P.underlying t = some (.slice e)) (he : P.underlying e = some (.int .u64)) (hc : P.cellsOf e = 1)
    (hval : Value.okWide P W r b0 t v) (h : DataW.Trod enc P W 0 (fun _ => true) true t v d ps) :
    ∃ A c b o, ∃ xs : List Nat, v = .slice A xs.length c ∧ SlR W 1 natE A c b o xs ∧ ∀ n ∈ xs, n < 18446744073709551616 := by
  obtain ⟨a0, len0, cap0, rfl⟩ := okWide_slice ht hval
  obtain ⟨fuel, hf⟩ := h
  rcases open_ints ht he hc hf with ⟨hcs, hx⟩ | ⟨a, len, cap, zs, hcs, _, hl, hm, hz, hx, hcell, hwz⟩
  · simp only [Value.cells, Prod.mk.injEq] at hcs hx
    simp at hcs
    obtain ⟨rfl, rfl, rfl⟩ := hcs
    exact ⟨none, 0, 0, 0, [], rfl, ⟨by simp, by simp, by simp [maxLen], by intro j u hu; simp at hu⟩, by simp⟩
  · simp [Value.cells] at hcs
    obtain ⟨rfl, rfl, rfl⟩ := hcs
    simp only [if_true] at hz
    have hlen : ((zs.take len0).map Int.toNat).length = len0 := by rw [List.length_map, List.length_take]; omega
    have hspot : 0 < zs.length → a = ⟨a.block, a.off, none⟩ := fun hp => by
      obtain ⟨b, o, s⟩ := a
      have : s = none := by simpa [Addr.add] using World.cell?_spot (hcell 0 hp)
      rw [this]
    refine ⟨some a, cap0, a.block, a.off, (zs.take len0).map Int.toNat, by rw [hlen], ⟨fun hp => ?_, by rw [hlen]; exact hl, hm, ?_⟩, ?_⟩
    · rw [hlen] at hp
      rw [← hspot (by omega)]
    · intro j u hu
      have hfl : ((zs.take len0).map Int.toNat).flatMap natE = ((zs.take len0).map Int.toNat).map (fun n : Nat => Value.int .u64 (n : Int)) := by
        generalize (zs.take len0).map Int.toNat = l
        induction l with
        | nil => rfl
        | cons n l ih => simp [natE, ih]
      rw [hfl, List.getElem?_map, List.getElem?_map] at hu
      cases hj : (zs.take len0)[j]? with
      | none => rw [hj] at hu; simp at hu
      | some z =>
        rw [hj] at hu
        simp only [Option.map_some, Option.some.injEq] at hu
        subst hu
        have hjl := (List.getElem?_eq_some_iff.1 hj).1
        rw [List.length_take] at hjl
        have hc1 := hcell j (by omega)
        rw [hspot (by omega), add_plain] at hc1
        rw [hc1]
        have hzm : z ∈ zs := List.mem_of_mem_take (List.mem_of_getElem? hj)
        rw [List.getElem?_take, if_pos (by omega)] at hj
        have hw := nat_wf (hwz z hzm)
        have : ((z.toNat : Nat) : Int) = z := by omega
        simp [List.getD, hj, this]
    · intro n hn
      obtain ⟨z, hz1, rfl⟩ := List.mem_map.1 hn
      have hw := nat_wf (hwz z (List.mem_of_mem_take hz1))
      omega

end Go.Proofs.Ytnobodgjabgikaa
