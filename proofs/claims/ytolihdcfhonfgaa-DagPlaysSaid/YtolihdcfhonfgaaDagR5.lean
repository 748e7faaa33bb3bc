/- DagPlays: any script of Add, Done and Kill is answered as the document says. Conditions: none. -/
import Derived.Test.YtolihdcfhonfgaaRows
import Derived.Test.YtolihdcfhonfgaaRowInts
import Derived.Test.YtolihdcfhonfgaaDagX2
import Derived.Deep.Strs
import Derived.Carry
namespace Go.Proofs.Ytolihdcfhonfgaa.dagPlays
open Go.ChangeShapes Go.WideShapes Go.ChangeAt Go.RowKit Go.Deep
set_option linter.unusedSimpArgs false
set_option linter.unusedVariables false

theorem ints_cells {W : World} {a : Addr} {len cap : Nat} {zs : List Int} (hl : len ≤ cap) (hm : cap ≤ maxLen) (hz : zs.length = cap) (hcell : ∀ i, i < zs.length → W.cell? (a.add i) = some (.int .i64 (zs.getD i 0))) :
    SlR W 1 intE (some a) cap a.block a.off (zs.take len) := by
  have hlen : (zs.take len).length = len := by rw [List.length_take]; omega
  have hspot : 0 < zs.length → a = ⟨a.block, a.off, none⟩ := fun hp => by
    obtain ⟨b, o, s⟩ := a
    have : s = none := by simpa [Addr.add] using World.cell?_spot (hcell 0 hp)
    rw [this]
  refine ⟨fun hp => ?_, by rw [hlen]; exact hl, hm, ?_⟩
  · rw [hlen] at hp
    rw [← hspot (by omega)]
  · intro j u hu
    rw [flat_intE, List.getElem?_map] at hu
    cases hj : (zs.take len)[j]? with
    | none => rw [hj] at hu; simp at hu
    | some z =>
      rw [hj] at hu
      simp only [Option.map_some, Option.some.injEq] at hu
      subst hu
      have hjl := (List.getElem?_eq_some_iff.1 hj).1
      rw [hlen] at hjl
      have hc1 := hcell j (by omega)
      rw [hspot (by omega), add_plain] at hc1
      rw [hc1]
      rw [List.getElem?_take, if_pos hjl] at hj
      simp [List.getD, hj]

instance : Inhabited OpV := ⟨⟨0, 0, none, 0, 0⟩⟩

theorem flat_at {α : Type} {k : Nat} {enc : α → List Value} (hk : ∀ x, (enc x).length = k) (hk0 : 0 < k) (xs : List α) (j : Nat) (u : Value) (h : (xs.flatMap enc)[j]? = some u) : ∃ x, xs[j / k]? = some x ∧ (enc x)[j % k]? = some u := by
  have hj := (List.getElem?_eq_some_iff.1 h).1
  rw [flat_len hk] at hj
  have hi : j / k < xs.length := (Nat.div_lt_iff_lt_mul hk0).2 hj
  refine ⟨xs[j / k], List.getElem?_eq_getElem hi, ?_⟩
  rw [← flat_get hk xs (j / k) _ (j % k) (List.getElem?_eq_getElem hi) (Nat.mod_lt _ hk0), Nat.div_add_mod' j k]
  exact h

theorem ops_arg {H : Type} {enc : TypeId × Value → H} {P : Program} {W : World} {r : Reach} {b0 : Nat} {t e g : TypeId} {f0 f1 f2 : Field} {v : Value} {d : DataW H} {ps : List MemPlace} (ht : P.underlying t = some (.slice e)) (he : P.underlying e = some (.struct #[f0, f1, f2])) (ce : P.cellsOf e = 3)
    (o0 : f0.offset = 0) (o1 : f1.offset = 1) (o2 : f2.offset = 2) (c0 : P.cellsOf f0.type = 1) (c1 : P.cellsOf f1.type = 1) (c2 : P.cellsOf f2.type = 1) (k0 : P.underlying f0.type = some (.int .i64)) (k1 : P.underlying f1.type = some (.int .i64)) (k2 : P.underlying f2.type = some (.slice g)) (kg : P.underlying g = some (.int .i64)) (kc : P.cellsOf g = 1)
    (hval : Value.okWide P W r b0 t v) (h : DataW.Trod enc P W 0 (fun _ => true) true t v d ps) :
    ∃ A c b o vs, v = .slice A vs.length c ∧ SlR W 3 opE A c b o vs ∧ ∀ (i : Nat) (v : OpV), vs[i]? = some v → OpIs W v := by
  obtain ⟨a0, len0, cap0, rfl⟩ := okWide_slice ht hval
  obtain ⟨fuel, hf⟩ := h
  rcases open_slice ht hf with ⟨hcs, hx⟩ | ⟨a, len, cap, m, n, D, Pl, hcs, _, hl, hm, hmm, hx, hall⟩
  · simp only [Value.cells] at hcs
    simp at hcs
    obtain ⟨rfl, rfl, rfl⟩ := hcs
    exact ⟨none, 0, 0, 0, [], rfl, ⟨by simp, by simp, by simp [maxLen], by intro j u hu; simp at hu⟩, by intro i v h; simp at h⟩
  · simp [Value.cells] at hcs
    obtain ⟨rfl, rfl, rfl⟩ := hcs
    simp only [if_true] at hmm
    subst hmm
    have each : ∀ i, i < len0 → ∃ q : OpV, (∀ j, j < 3 → W.cell? (a.add (i * 3 + j)) = (opE q)[j]?) ∧ OpIs W q := by
      intro i hi
      obtain ⟨cs', g1, g2⟩ := hall i (by omega)
      rw [ce] at g1
      obtain ⟨_, hlen, hcell⟩ := World.cells?_some g1
      obtain ⟨y0, y1, y2, n', _, _, s0, s1, s2⟩ := trod_struct3 he g2
      match cs', hlen with
      | [v0, v1, v2], _ =>
        simp [o0, c0] at s0
        simp [o1, c1] at s1
        simp [o2, c2] at s2
        obtain ⟨z0, e0, _, _⟩ := DataW.trod_int k0 s0
        obtain ⟨z1, e1, _, w1⟩ := DataW.trod_int k1 s1
        simp only [List.cons.injEq, and_true] at e0 e1
        subst e0 e1
        have p0 := hcell 0 (by omega)
        have p1 := hcell 1 (by omega)
        have p2 := hcell 2 (by omega)
        rw [add_add] at p0 p1 p2
        rcases open_ints k2 kg kc s2 with ⟨e2, _⟩ | ⟨a', len', cap', zs, e2, _, hl', hm', hz', _, hc', _⟩
        · simp only [List.cons.injEq, and_true] at e2
          subst e2
          refine ⟨⟨z0, z1, none, 0, 0⟩, ?_, w1, 0, 0, [], rfl, ⟨by simp, by simp, by simp [maxLen], by intro j u hu; simp at hu⟩⟩
          intro j hj
          match j, hj with
          | 0, _ => simpa [opE] using p0
          | 1, _ => simpa [opE] using p1
          | 2, _ => simpa [opE] using p2
        · simp only [List.cons.injEq, and_true] at e2
          subst e2
          simp only [if_true] at hz'
          have hlt : (zs.take len').length = len' := by rw [List.length_take]; omega
          refine ⟨⟨z0, z1, some a', len', cap'⟩, ?_, w1, a'.block, a'.off, zs.take len', hlt.symm, ints_cells hl' hm' hz' hc'⟩
          intro j hj
          match j, hj with
          | 0, _ => simpa [opE] using p0
          | 1, _ => simpa [opE] using p1
          | 2, _ => simpa [opE] using p2
    obtain ⟨q, hq⟩ := choose_lt each
    have hspot : 0 < len0 → a = ⟨a.block, a.off, none⟩ := fun hp => by
      have hc := (hq 0 hp).1 0 (by omega)
      obtain ⟨b, o, s⟩ := a
      have : s = none := by simpa [Addr.add] using World.cell?_spot (hc.trans rfl)
      rw [this]
    refine ⟨some a, m, a.block, a.off, (List.range len0).map q, by simp, ⟨fun hp => ?_, by simpa using hl, hm, ?_⟩, ?_⟩
    · simp at hp
      rw [← hspot hp]
    · intro j u hu
      obtain ⟨x, hx1, hx2⟩ := flat_at opE_len (by omega) _ j u hu
      rw [List.getElem?_map] at hx1
      have hji : j / 3 < len0 := by
        refine Classical.byContradiction fun hn => ?_
        rw [List.getElem?_eq_none (by simp; omega)] at hx1
        cases hx1
      rw [List.getElem?_range hji] at hx1
      simp only [Option.map_some, Option.some.injEq] at hx1
      subst hx1
      have hc := (hq (j / 3) hji).1 (j % 3) (Nat.mod_lt _ (by omega))
      rw [hx2, hspot (by omega), add_plain, show j / 3 * 3 + j % 3 = j from Nat.div_add_mod' j 3] at hc
      exact hc
    · intro i v hv
      rw [List.getElem?_map] at hv
      have hi : i < len0 := by
        refine Classical.byContradiction fun hn => ?_
        rw [List.getElem?_eq_none (by simp; omega)] at hv
        cases hv
      rw [List.getElem?_range hi] at hv
      simp only [Option.map_some, Option.some.injEq] at hv
      subst hv
      exact (hq i hi).2

theorem own : ownKnob Try.prog.godebug = none := by kernel_rfl
theorem laidOut : laidOutB Try.prog = true := by kernel_rfl

set_option maxRecDepth 100000 in
theorem lifted (os : Os) (started : os.Started) (H : Type) (enc : TypeId × Value → H) :
    ReturnsInHanded {} Try.checked os 7 .any (Rows.dagPlaysSpec.pre6 enc Try.prog Try.f7 Rows.dagPlaysRow.domain false) (Rows.dagPlaysSpec.post enc Try.prog Try.f7 false true false false) := by
  refine returnsInHanded_of_change (C := Try.checked) own started (by kernel_rfl) Try.func7
    (ChangeSpec.witness6 (enc := enc) (C := Try.checked) false ⟨#[], #[.slice none 0 0], []⟩ 8 (by kernel_rfl) (by kernel_rfl) (by kernel_rfl) (by kernel_rfl)) ?_
  intro W base args ds gs before hval0 hW hcnd _
  have hval : ∀ (j : Nat) t v, Try.f7.params[j]? = some t → args[j]? = some v → Value.okWide Try.prog W .any base t v := hval0
  have hW' := hW
  have hlt := hW.lt
  obtain ⟨p, q, hA0, hV, rfl, hfz, hnd⟩ := hW
  have hA : DataW.TrodAll enc Try.prog W 0 (fun _ => true) true Try.f7.params.toList args.toList ds p := hA0
  rw [Try.params7] at hA hval
  obtain ⟨v0, vs0, d0, ds0, p0, q0, hargs, rfl, rfl, h0, r0⟩ := trodAll_cons hA
  obtain ⟨rfl, rfl, rfl⟩ := trodAll_nil r0
  obtain rfl : args = #[v0] := by cases args; simp_all
  obtain ⟨rfl, rfl⟩ := trodVars_none hV
  have h0k := h0
  obtain ⟨A, c, b, o, xs, rfl, hxs, hops⟩ := ops_arg Try.underlying36 Try.underlying42 (by kernel_rfl) rfl rfl rfl (by kernel_rfl) (by kernel_rfl) (by kernel_rfl) Try.underlying3 Try.underlying3 Try.underlying24 Try.underlying3 (by kernel_rfl) (hval 0 36 v0 rfl rfl) h0
  clear hA0 hval0
  simp only [List.append_nil] at hW' hlt
  refine (plays_walk A c b o xs W hxs hops).mono fun e W' ⟨he, hg⟩ => ?_
  subst he
  have hb := hg.below (fun _ _ => nb)
  have hargs := trodAll_cons_mk (Below.trod laidOut (by kernel_rfl) (of_decide_eq_true (by kernel_rfl)) h0k hb (fun x hx => by simpa using hlt x hx)) trodAll_mk0
  simp only [List.append_nil] at hargs
  exact ⟨_, rfl, law_post hW' (fun _ => trodAll_cons_mk (shut_bool Try.underlying4 _) trodAll_mk0) hargs rfl hb⟩

/-- The statement. -/
theorem proved : Rows.DagPlaysSaid :=
  OpenClaim.holds_of_wide 7 Try.f7 rfl rfl rfl rfl rfl rfl rfl ⟨rfl, rfl, rfl, rfl, rfl⟩ rfl rfl rfl rfl rfl (by kernel_rfl) Try.func7 (by kernel_rfl)
    (of_decide_eq_true (by kernel_rfl)) (by unfold Func.isWrapper; first | (rw [if_pos (by decide +kernel)]; kernel_rfl) | (rw [if_neg (by decide +kernel)]; exact ⟨rfl, rfl⟩))
    (fun os started H enc _ => lifted os started H enc)
#print axioms proved
end Go.Proofs.Ytolihdcfhonfgaa.dagPlays
