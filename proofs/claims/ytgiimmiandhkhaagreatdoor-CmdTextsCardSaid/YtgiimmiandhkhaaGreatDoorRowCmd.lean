/- A command among the arguments. Parts began as XRowBops, XRowNum. -/
import Derived.Test.YtgiimmiandhkhaaGreatDoorRow
import Derived.Test.YtgiimmiandhkhaaGreatDoorRowBops
import Derived.Test.YtgiimmiandhkhaaGreatDoorCmG
import Derived.OpenShut
namespace Go.Proofs.YtgiimmiandhkhaaGreatDoor
open Go.ChangeShapes Go.WideShapes Go.ChangeAt Go.RowKit Go.Deep
set_option linter.unusedSimpArgs false
set_option linter.unusedVariables false

theorem ops_cells {H : Type} {enc : TypeId × Value → H} {P : Program} {W : World} {t e : TypeId} {f0 f1 f2 : Field} {u : Value} {fuel : Nat} {x : DataW H × List MemPlace} (ht : P.underlying t = some (.slice e)) (he : P.underlying e = some (.struct #[f0, f1, f2])) (ce : P.cellsOf e = 3)
    (o0 : f0.offset = 0) (o1 : f1.offset = 1) (o2 : f2.offset = 2) (c0 : P.cellsOf f0.type = 1) (c1 : P.cellsOf f1.type = 1) (c2 : P.cellsOf f2.type = 1) (k0 : P.underlying f0.type = some (.int .i64)) (k1 : P.underlying f1.type = some (.int .i64)) (k2 : P.underlying f2.type = some (.int .i64))
    (hf : DataW.trod enc P W 0 (fun _ => true) true fuel t [u] = some x) :
    ∃ A c b o vs, u = .slice A vs.length c ∧ SlR W 3 opB A c b o vs := by
  have hu : ∃ a l c, u = .slice a l c := by
    rcases open_slice ht hf with ⟨hcs, _⟩ | ⟨a, len, cap, m, n, D, Pl, hcs, _⟩
    · simp at hcs; exact ⟨_, _, _, hcs⟩
    · simp at hcs; exact ⟨_, _, _, hcs⟩
  obtain ⟨a, l, c, rfl⟩ := hu
  refine ops_argS ht he ce o0 o1 o2 c0 c1 c2 k0 k1 k2 ⟨fuel, by simpa [Value.cells] using hf⟩
theorem nums_cells {H : Type} {enc : TypeId × Value → H} {P : Program} {W : World} {t e : TypeId} {u : Value} {fuel : Nat} {x : DataW H × List MemPlace} (ht : P.underlying t = some (.slice e)) (he : P.underlying e = some (.int .i64)) (hc : P.cellsOf e = 1)
    (hf : DataW.trod enc P W 0 (fun _ => true) true fuel t [u] = some x) :
    ∃ A c b o xs, u = .slice A xs.length c ∧ SlR W 1 intE A c b o xs ∧ ∀ z ∈ xs, (Lit.int .i64 z).wf = true := by
  rcases open_ints ht he hc hf with ⟨hcs, hx⟩ | ⟨a, len, cap, zs, hcs, _, hl, hm, hz, hx, hcell, hwz⟩
  · simp at hcs
    subst hcs
    exact ⟨none, 0, 0, 0, [], rfl, ⟨by simp, by simp, by simp [maxLen], by intro j u hu; simp at hu⟩, by simp⟩
  · simp at hcs
    subst hcs
    simp only [if_true] at hz
    have hlen : (zs.take len).length = len := by rw [List.length_take]; omega
    have hspot : 0 < zs.length → a = ⟨a.block, a.off, none⟩ := fun hp => by
      obtain ⟨b, o, s⟩ := a
      have : s = none := by simpa [Addr.add] using World.cell?_spot (hcell 0 hp)
      rw [this]
    refine ⟨some a, cap, a.block, a.off, zs.take len, by rw [hlen], ⟨fun hp => ?_, by rw [hlen]; exact hl, hm, ?_⟩, fun z hz => hwz z (List.mem_of_mem_take hz)⟩
    · rw [hlen] at hp
      rw [← hspot (by omega)]
    · intro j u hu
      have hfl : (zs.take len).flatMap intE = (zs.take len).map (Value.int .i64) := by
        generalize zs.take len = l
        induction l with
        | nil => rfl
        | cons x l ih => simp [intE] at ih ⊢; exact ih
      rw [hfl, List.getElem?_map] at hu
      cases hj : (zs.take len)[j]? with
      | none => rw [hj] at hu; simp at hu
      | some z =>
        rw [hj] at hu
        simp only [Option.map_some, Option.some.injEq] at hu
        subst hu
        have hjl := (List.getElem?_eq_some_iff.1 hj).1
        rw [hlen] at hjl
        have hc1 := hcell j (by omega)
        rw [hspot (by omega), add_plain] at hc1
        rw [hc1]
        rw [List.getElem?_take, if_pos hjl] at hj
        simp [List.getD, hj]

set_option maxRecDepth 100000 in
theorem cmd_arg {H : Type} {enc : TypeId × Value → H} {W : World} {r : Reach} {b0 : Nat} {v : Value} {d : DataW H} {ps : List MemPlace}
    (hval : Value.okWide Tryz.prog W r b0 26 v) (h : DataW.Trod enc Tryz.prog W 0 (fun _ => true) true 26 v d ps) :
    ∃ (c : Cm) (Ab : Option Addr) (cb bb ob : Nat) (Ap : Option Addr) (cp bp op : Nat), v = cmVal c (.slice Ab c.body.length cb) (.slice Ap c.preds.length cp) ∧ CmR c ∧ SlR W 3 opB Ab cb bb ob c.body ∧ SlR W 1 intE Ap cp bp op c.preds := by
  obtain ⟨cs, rfl, hsz⟩ := okWide_struct Tryz.underlying26 hval
  have h8 : Tryz.prog.cellsOf 26 = 8 := by kernel_rfl
  rw [h8] at hsz
  obtain ⟨l, rfl⟩ : ∃ l : List Value, cs = l.toArray := ⟨cs.toList, by simp⟩
  obtain ⟨v0, v1, v2, v3, v4, v5, v6, v7, rfl⟩ : ∃ v0 v1 v2 v3 v4 v5 v6 v7, l = [v0, v1, v2, v3, v4, v5, v6, v7] := by
    match l, hsz with
    | [v0, v1, v2, v3, v4, v5, v6, v7], _ => exact ⟨v0, v1, v2, v3, v4, v5, v6, v7, rfl⟩
  obtain ⟨fuel, hf⟩ := h
  obtain ⟨xs, n, _, _, hl, hlen, hall⟩ := DataW.trod_struct Tryz.underlying26 hf
  have ci : Tryz.prog.cellsOf 3 = 1 := by kernel_rfl
  have cu : Tryz.prog.cellsOf 22 = 1 := by kernel_rfl
  have co : Tryz.prog.cellsOf 23 = 1 := by kernel_rfl
  have cp : Tryz.prog.cellsOf 24 = 1 := by kernel_rfl
  obtain ⟨x0, x1, x2, x3, x4, x5, x6, x7, rfl⟩ : ∃ x0 x1 x2 x3 x4 x5 x6 x7, xs = [x0, x1, x2, x3, x4, x5, x6, x7] := by
    match xs, hlen with
    | [x0, x1, x2, x3, x4, x5, x6, x7], _ => exact ⟨x0, x1, x2, x3, x4, x5, x6, x7, rfl⟩
  have g0 := hall 0 _ rfl
  have g1 := hall 1 _ rfl
  have g2 := hall 2 _ rfl
  have g3 := hall 3 _ rfl
  have g4 := hall 4 _ rfl
  have g5 := hall 5 _ rfl
  have g6 := hall 6 _ rfl
  have g7 := hall 7 _ rfl
  simp [Value.cells, ci, cu, co, cp] at g0 g1 g2 g3 g4 g5 g6 g7
  obtain ⟨z0, e0, _, w0⟩ := DataW.trod_int Tryz.underlying3 g0
  obtain ⟨z1, e1, _, w1⟩ := DataW.trod_int Tryz.underlying3 g1
  obtain ⟨z2, e2, _, w2⟩ := DataW.trod_int Tryz.underlying3 g2
  obtain ⟨z3, e3, _, w3⟩ := DataW.trod_int Tryz.underlying3 g3
  obtain ⟨z4, e4, _, w4⟩ := DataW.trod_int Tryz.underlying22 g4
  obtain ⟨z5, e5, _, w5⟩ := DataW.trod_int Tryz.underlying22 g5
  simp only [List.cons.injEq, and_true] at e0 e1 e2 e3 e4 e5
  subst e0 e1 e2 e3 e4 e5
  obtain ⟨Ab, cb, bb, ob, vs, rfl, hb⟩ := ops_cells Tryz.underlying23 Tryz.underlying68 (by kernel_rfl) rfl rfl rfl (by kernel_rfl) (by kernel_rfl) (by kernel_rfl) Tryz.underlying3 Tryz.underlying3 Tryz.underlying3 g6
  obtain ⟨Ap, cp', bp, op, xs', rfl, hp, hwx⟩ := nums_cells Tryz.underlying24 Tryz.underlying3 (by kernel_rfl) g7
  have b1 := bounds_i64 w1
  have b2 := bounds_i64 w2
  have b3 := bounds_i64 w3
  have b4 := bounds_u64 w4
  have b5 := bounds_u64 w5
  exact ⟨⟨z0, z1, z2, z3, z4, z5, vs, xs'⟩, Ab, cb, bb, ob, Ap, cp', bp, op, rfl, ⟨b1, b2, b3, ⟨b4.1, Int.lt_add_one_of_le b4.2⟩, ⟨b5.1, Int.lt_add_one_of_le b5.2⟩, fun x hx => bounds_i64 (hwx x hx)⟩, hb, hp⟩
end Go.Proofs.YtgiimmiandhkhaaGreatDoor
