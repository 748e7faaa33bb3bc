/- A slice of ops among the arguments. -/
import Derived.Test.YtgiimmiandhkhaaGreatDoorRow
import Derived.Test.YtgiimmiandhkhaaGreatDoorBoB
import Derived.Deep.Strs
import Derived.Carry
namespace Go.Proofs.YtgiimmiandhkhaaGreatDoor
open Go.ChangeShapes Go.WideShapes Go.ChangeAt Go.RowKit Go.Deep
set_option linter.unusedSimpArgs false
set_option linter.unusedVariables false

instance : Inhabited BOp := ⟨⟨0, 0, 0⟩⟩
theorem flat_at {α : Type} {k : Nat} {enc : α → List Value} (hk : ∀ x, (enc x).length = k) (hk0 : 0 < k) (xs : List α) (j : Nat) (u : Value) (h : (xs.flatMap enc)[j]? = some u) : ∃ x, xs[j / k]? = some x ∧ (enc x)[j % k]? = some u := by
  have hj := (List.getElem?_eq_some_iff.1 h).1
  rw [flat_len hk] at hj
  have hi : j / k < xs.length := (Nat.div_lt_iff_lt_mul hk0).2 hj
  refine ⟨xs[j / k], List.getElem?_eq_getElem hi, ?_⟩
  rw [← flat_get hk xs (j / k) _ (j % k) (List.getElem?_eq_getElem hi) (Nat.mod_lt _ hk0), Nat.div_add_mod' j k]
  exact h

theorem ops_argS {H : Type} {enc : TypeId × Value → H} {P : Program} {W : World} {t e : TypeId} {f0 f1 f2 : Field} {a0 : Option Addr} {len0 cap0 : Nat} {d : DataW H} {ps : List MemPlace} (ht : P.underlying t = some (.slice e)) (he : P.underlying e = some (.struct #[f0, f1, f2])) (ce : P.cellsOf e = 3)
    (o0 : f0.offset = 0) (o1 : f1.offset = 1) (o2 : f2.offset = 2) (c0 : P.cellsOf f0.type = 1) (c1 : P.cellsOf f1.type = 1) (c2 : P.cellsOf f2.type = 1) (k0 : P.underlying f0.type = some (.int .i64)) (k1 : P.underlying f1.type = some (.int .i64)) (k2 : P.underlying f2.type = some (.int .i64))
    (h : DataW.Trod enc P W 0 (fun _ => true) true t (.slice a0 len0 cap0) d ps) :
    ∃ A c b o vs, (.slice a0 len0 cap0 : Value) = .slice A vs.length c ∧ SlR W 3 opB A c b o vs := by
  obtain ⟨fuel, hf⟩ := h
  rcases open_slice ht hf with ⟨hcs, hx⟩ | ⟨a, len, cap, m, n, D, Pl, hcs, _, hl, hm, hmm, hx, hall⟩
  · simp only [Value.cells] at hcs
    simp at hcs
    obtain ⟨rfl, rfl, rfl⟩ := hcs
    exact ⟨none, 0, 0, 0, [], rfl, ⟨by simp, by simp, by simp [maxLen], by intro j u hu; simp at hu⟩⟩
  · simp [Value.cells] at hcs
    obtain ⟨rfl, rfl, rfl⟩ := hcs
    simp only [if_true] at hmm
    subst hmm
    have each : ∀ i, i < len0 → ∃ q : BOp, ∀ j, j < 3 → W.cell? (a.add (i * 3 + j)) = (opB q)[j]? := by
      intro i hi
      obtain ⟨cs', g1, g2⟩ := hall i (by omega)
      rw [ce] at g1
      obtain ⟨_, hlen, hcell⟩ := World.cells?_some g1
      obtain ⟨y0, y1, y2, n', _, _, s0, s1, s2⟩ := trod_struct3 he g2
      match cs', hlen with
      | [v0, v1, v2], _ =>
        simp [o0, c0] at s0
        simp [o1, c1] at s1
        simp [o2, c2] at s2
        obtain ⟨z0, e0, _, _⟩ := DataW.trod_int k0 s0
        obtain ⟨z1, e1, _, w1⟩ := DataW.trod_int k1 s1
        obtain ⟨z2, e2, _, w2⟩ := DataW.trod_int k2 s2
        simp only [List.cons.injEq, and_true] at e0 e1 e2
        subst e0 e1 e2
        have p0 := hcell 0 (by omega)
        have p1 := hcell 1 (by omega)
        have p2 := hcell 2 (by omega)
        rw [add_add] at p0 p1 p2
        refine ⟨⟨z0, z1, z2⟩, ?_⟩
        intro j hj
        match j, hj with
        | 0, _ => simpa [opB] using p0
        | 1, _ => simpa [opB] using p1
        | 2, _ => simpa [opB] using p2
    obtain ⟨q, hq⟩ := choose_lt each
    have hspot : 0 < len0 → a = ⟨a.block, a.off, none⟩ := fun hp => by
      have hc := hq 0 hp 0 (by omega)
      obtain ⟨b, o, s⟩ := a
      have : s = none := by simpa [Addr.add] using World.cell?_spot (hc.trans rfl)
      rw [this]
    refine ⟨some a, m, a.block, a.off, (List.range len0).map q, by simp, ⟨fun hp => ?_, by simpa using hl, hm, ?_⟩⟩
    · simp at hp
      rw [← hspot hp]
    · intro j u hu
      obtain ⟨x, hx1, hx2⟩ := flat_at opB_len (by omega) _ j u hu
      rw [List.getElem?_map] at hx1
      have hji : j / 3 < len0 := by
        refine Classical.byContradiction fun hn => ?_
        rw [List.getElem?_eq_none (by simp; omega)] at hx1
        cases hx1
      rw [List.getElem?_range hji] at hx1
      simp only [Option.map_some, Option.some.injEq] at hx1
      subst hx1
      have hc := hq (j / 3) hji (j % 3) (Nat.mod_lt _ (by omega))
      rw [hx2, hspot (by omega), add_plain, show j / 3 * 3 + j % 3 = j from Nat.div_add_mod' j 3] at hc
      exact hc

theorem ops_arg0 {H : Type} {enc : TypeId × Value → H} {P : Program} {W : World} {r : Reach} {b0 : Nat} {t e : TypeId} {f0 f1 f2 : Field} {v : Value} {d : DataW H} {ps : List MemPlace} (ht : P.underlying t = some (.slice e)) (he : P.underlying e = some (.struct #[f0, f1, f2])) (ce : P.cellsOf e = 3)
    (o0 : f0.offset = 0) (o1 : f1.offset = 1) (o2 : f2.offset = 2) (c0 : P.cellsOf f0.type = 1) (c1 : P.cellsOf f1.type = 1) (c2 : P.cellsOf f2.type = 1) (k0 : P.underlying f0.type = some (.int .i64)) (k1 : P.underlying f1.type = some (.int .i64)) (k2 : P.underlying f2.type = some (.int .i64))
    (hval : Value.okWide P W r b0 t v) (h : DataW.Trod enc P W 0 (fun _ => true) true t v d ps) :
    ∃ A c b o vs, v = .slice A vs.length c ∧ SlR W 3 opB A c b o vs := by
  obtain ⟨a0, len0, cap0, rfl⟩ := okWide_slice ht hval
  obtain ⟨fuel, hf⟩ := h
  rcases open_slice ht hf with ⟨hcs, hx⟩ | ⟨a, len, cap, m, n, D, Pl, hcs, _, hl, hm, hmm, hx, hall⟩
  · simp only [Value.cells] at hcs
    simp at hcs
    obtain ⟨rfl, rfl, rfl⟩ := hcs
    exact ⟨none, 0, 0, 0, [], rfl, ⟨by simp, by simp, by simp [maxLen], by intro j u hu; simp at hu⟩⟩
  · simp [Value.cells] at hcs
    obtain ⟨rfl, rfl, rfl⟩ := hcs
    simp only [if_true] at hmm
    subst hmm
    have each : ∀ i, i < len0 → ∃ q : BOp, ∀ j, j < 3 → W.cell? (a.add (i * 3 + j)) = (opB q)[j]? := by
      intro i hi
      obtain ⟨cs', g1, g2⟩ := hall i (by omega)
      rw [ce] at g1
      obtain ⟨_, hlen, hcell⟩ := World.cells?_some g1
      obtain ⟨y0, y1, y2, n', _, _, s0, s1, s2⟩ := trod_struct3 he g2
      match cs', hlen with
      | [v0, v1, v2], _ =>
        simp [o0, c0] at s0
        simp [o1, c1] at s1
        simp [o2, c2] at s2
        obtain ⟨z0, e0, _, _⟩ := DataW.trod_int k0 s0
        obtain ⟨z1, e1, _, w1⟩ := DataW.trod_int k1 s1
        obtain ⟨z2, e2, _, w2⟩ := DataW.trod_int k2 s2
        simp only [List.cons.injEq, and_true] at e0 e1 e2
        subst e0 e1 e2
        have p0 := hcell 0 (by omega)
        have p1 := hcell 1 (by omega)
        have p2 := hcell 2 (by omega)
        rw [add_add] at p0 p1 p2
        refine ⟨⟨z0, z1, z2⟩, ?_⟩
        intro j hj
        match j, hj with
        | 0, _ => simpa [opB] using p0
        | 1, _ => simpa [opB] using p1
        | 2, _ => simpa [opB] using p2
    obtain ⟨q, hq⟩ := choose_lt each
    have hspot : 0 < len0 → a = ⟨a.block, a.off, none⟩ := fun hp => by
      have hc := hq 0 hp 0 (by omega)
      obtain ⟨b, o, s⟩ := a
      have : s = none := by simpa [Addr.add] using World.cell?_spot (hc.trans rfl)
      rw [this]
    refine ⟨some a, m, a.block, a.off, (List.range len0).map q, by simp, ⟨fun hp => ?_, by simpa using hl, hm, ?_⟩⟩
    · simp at hp
      rw [← hspot hp]
    · intro j u hu
      obtain ⟨x, hx1, hx2⟩ := flat_at opB_len (by omega) _ j u hu
      rw [List.getElem?_map] at hx1
      have hji : j / 3 < len0 := by
        refine Classical.byContradiction fun hn => ?_
        rw [List.getElem?_eq_none (by simp; omega)] at hx1
        cases hx1
      rw [List.getElem?_range hji] at hx1
      simp only [Option.map_some, Option.some.injEq] at hx1
      subst hx1
      have hc := hq (j / 3) hji (j % 3) (Nat.mod_lt _ (by omega))
      rw [hx2, hspot (by omega), add_plain, show j / 3 * 3 + j % 3 = j from Nat.div_add_mod' j 3] at hc
      exact hc

set_option maxRecDepth 100000 in
theorem ops_arg {H : Type} {enc : TypeId × Value → H} {W : World} {r : Reach} {b0 : Nat} {v : Value} {d : DataW H} {ps : List MemPlace}
    (hval : Value.okWide Tryz.prog W r b0 23 v) (h : DataW.Trod enc Tryz.prog W 0 (fun _ => true) true 23 v d ps) :
    ∃ A c b o vs, v = .slice A vs.length c ∧ SlR W 3 opB A c b o vs :=
  ops_arg0 Tryz.underlying23 Tryz.underlying68 (by kernel_rfl) rfl rfl rfl (by kernel_rfl) (by kernel_rfl) (by kernel_rfl) Tryz.underlying3 Tryz.underlying3 Tryz.underlying3 hval h

end Go.Proofs.YtgiimmiandhkhaaGreatDoor
