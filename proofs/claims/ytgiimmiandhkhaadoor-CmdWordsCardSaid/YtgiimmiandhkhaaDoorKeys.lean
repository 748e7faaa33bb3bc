/- Keys of maps: whole numbers, and pairs of them. -/
import Derived.Test.YtgiimmiandhkhaaDoorBase
namespace Go.Proofs.YtgiimmiandhkhaaDoor
open Go.RowKit
set_option linter.unusedSimpArgs false
set_option linter.unusedVariables false

def intV (q : IntKind) (x : Int) : Value := .int q x
def pairV (q : IntKind) (x : Int × Int) : Value := .agg #[.int q x.1, .int q x.2]

theorem findNow_int {q q' : IntKind} (x : Int) : ∀ (es : List MapEntry) (i : Nat), (∀ e ∈ es, ∃ y, e.key = .int q y) →
    (Instr.findNow (.int q') (.int q x) es i = some none ∧ ∀ e ∈ es, e.key ≠ .int q x) ∨
    ∃ j e, Instr.findNow (.int q') (.int q x) es i = some (some (i + j, e.val)) ∧ es[j]? = some e ∧ e.key = .int q x
  | [], i, _ => .inl ⟨rfl, by simp⟩
  | e :: es, i, h => by
    obtain ⟨y, hy⟩ := h e (by simp)
    by_cases hxy : x = y
    · subst hxy
      refine .inr ⟨0, e, ?_, rfl, hy⟩
      simp [Instr.findNow, Instr.sameNow, hy]
    · have hs : Instr.findNow (.int q') (.int q x) (e :: es) i = Instr.findNow (.int q') (.int q x) es (i + 1) := by
        have hb : (x == y) = false := by simpa using hxy
        simp [Instr.findNow, Instr.sameNow, hy, hb]
      rcases findNow_int (q' := q') x es (i + 1) (fun e he => h e (List.mem_cons_of_mem _ he)) with ⟨h1, h2⟩ | ⟨j, e', h1, h2, h3⟩
      · refine .inl ⟨hs.trans h1, ?_⟩
        intro e' he'
        rcases List.mem_cons.1 he' with rfl | he'
        · rw [hy]; intro c; injection c with _ c; exact hxy c.symm
        · exact h2 e' he'
      · refine .inr ⟨j + 1, e', ?_, by simpa using h2, h3⟩
        rw [hs, h1, show i + 1 + j = i + (j + 1) by omega]

theorem int_key {P : Program} {k : TypeId} {q : IntKind} (hk : P.underlying k = some (.int q)) : KeyEnc P k (intV q) where
  check := fun w em x => by
    rw [show (10000 : Nat) = 9999 + 1 from rfl, Instr.checkKey]
    simp [run_underlying hk, intV]
  find := fun w x es hes => by
    rcases findNow_int (q' := q) x es 0 hes with ⟨h1, h2⟩ | ⟨j, e, h1, h2, h3⟩
    · exact .inl ⟨by simp [Instr.findKey, run_underlying hk, intV, h1], h2⟩
    · exact .inr ⟨j, e, by simp [Instr.findKey, run_underlying hk, intV, h1], h2, h3⟩
  stays := fun w x => by
    have h : Instr.sameBits 10000 (intV q x) (intV q x) = true := by rw [show (10000 : Nat) = 9999 + 1 from rfl]; simp only [intV, Instr.sameBits]; simp
    simp [Instr.keyThatStays, h]
  inj := fun h => by injection h

/-- A test that the model asks entry by entry. -/
theorem findAsking_of {P : Program} {k : TypeId} {K : Type} [DecidableEq K] {enc : K → Value} (inj : ∀ {x y : K}, enc x = enc y → x = y) (heq : ∀ (w : World) (x y : K), (Op.equal k (enc x) (enc y)).run P w = .ok (decide (x = y)) w) (w : World) (x : K) :
    ∀ (es : List MapEntry) (i : Nat), (∀ e ∈ es, ∃ y, e.key = enc y) →
    ((Instr.findAsking k (enc x) es i).run P w = .ok none w ∧ ∀ e ∈ es, e.key ≠ enc x) ∨
    ∃ j e, (Instr.findAsking k (enc x) es i).run P w = .ok (some (i + j, e.val)) w ∧ es[j]? = some e ∧ e.key = enc x
  | [], i, _ => .inl ⟨rfl, by simp⟩
  | e :: es, i, h => by
    obtain ⟨y, hy⟩ := h e (by simp)
    by_cases hxy : x = y
    · subst hxy
      refine .inr ⟨0, e, ?_, rfl, hy⟩
      simp [Instr.findAsking, hy, heq]
    · have hs : (Instr.findAsking k (enc x) (e :: es) i).run P w = (Instr.findAsking k (enc x) es (i + 1)).run P w := by
        simp [Instr.findAsking, hy, heq, hxy]
      rcases findAsking_of inj heq w x es (i + 1) (fun e he => h e (List.mem_cons_of_mem _ he)) with ⟨h1, h2⟩ | ⟨j, e', h1, h2, h3⟩
      · refine .inl ⟨hs.trans h1, ?_⟩
        intro e' he'
        rcases List.mem_cons.1 he' with rfl | he'
        · rw [hy]; intro c; exact hxy (inj c).symm
        · exact h2 e' he'
      · refine .inr ⟨j + 1, e', ?_, by simpa using h2, h3⟩
        rw [hs, h1, show i + 1 + j = i + (j + 1) by omega]

theorem pair_eq {P : Program} {k e : TypeId} {q : IntKind} (hk : P.underlying k = some (.array 2 e)) (he : P.underlying e = some (.int q)) (hs : (P.info? e).map (·.size) = some 1) (w : World) (x y : Int × Int) :
    (Op.equal k (pairV q x) (pairV q y)).run P w = .ok (decide (x = y)) w := by
  obtain ⟨x1, x2⟩ := x
  obtain ⟨y1, y2⟩ := y
  unfold Op.equal Op.maxDepth
  rw [show (10000 : Nat) = 9998 + 1 + 1 from rfl, Op.equalIn]
  simp only [pairV, Sem.run_bind, run_underlying hk, Result.andThen_ok]
  obtain ⟨i, hi, hi1⟩ := Option.map_eq_some_iff.1 hs
  have hsz : ∀ w : World, (sizeOf e).run P w = .ok 1 w := fun w => by simp [sizeOf, typeInfo, hi, hi1]
  have hagg : ∀ w : World, (isAgg e).run P w = .ok false w := fun w => by simp [isAgg, run_underlying he]
  have hel : ∀ (n : Nat) (w : World) (a b : Int), (Op.equalIn (n + 1) e (.int q a) (.int q b)).run P w = .ok (a == b) w := fun n w a b => by simp [Op.equalIn, run_underlying he]
  generalize 9998 = n
  by_cases h1 : x1 = y1
  · subst h1
    by_cases h2 : x2 = y2
    · subst h2; simp [Std.Legacy.Range.forIn_eq_forIn_range', Std.Legacy.Range.size, List.range', hsz, part, hagg, hel]
    · have hb : (x2 == y2) = false := by simpa using h2
      simp [Std.Legacy.Range.forIn_eq_forIn_range', Std.Legacy.Range.size, List.range', hsz, part, hagg, hel, h2, hb]
  · have hb : (x1 == y1) = false := by simpa using h1
    simp [Std.Legacy.Range.forIn_eq_forIn_range', Std.Legacy.Range.size, List.range', hsz, part, hagg, hel, h1, hb]

theorem pair_key {P : Program} {k e : TypeId} {q : IntKind} (hk : P.underlying k = some (.array 2 e)) (he : P.underlying e = some (.int q)) (hs : (P.info? e).map (·.size) = some 1) : KeyEnc P k (pairV q) where
  check := fun w em x => by
    rw [show (10000 : Nat) = 9998 + 1 + 1 from rfl, Instr.checkKey]
    simp only [Sem.run_bind, run_underlying hk, Result.andThen_ok, pairV]
    obtain ⟨i, hi, hi1⟩ := Option.map_eq_some_iff.1 hs
    have hsz : ∀ w : World, (sizeOf e).run P w = .ok 1 w := fun w => by simp [sizeOf, typeInfo, hi, hi1]
    have hagg : ∀ w : World, (isAgg e).run P w = .ok false w := fun w => by simp [isAgg, run_underlying he]
    have hel : ∀ (n : Nat) (w : World) (a : Int), (Instr.checkKey em (n + 1) e (.int q a)).run P w = .ok () w := fun n w a => by simp [Instr.checkKey, run_underlying he]
    generalize 9998 = n
    simp [Std.Legacy.Range.forIn_eq_forIn_range', Std.Legacy.Range.size, List.range', hsz, part, hagg, hel]
  find := fun w x es hes => by
    have inj : ∀ {x y : Int × Int}, pairV q x = pairV q y → x = y := by
      intro x y h; injection h with h; injection h with h; injection h with h1 h2; injection h1 with _ h1; injection h2 with h2 _; injection h2 with _ h2; exact Prod.ext h1 h2
    cases es with
    | nil => exact .inl ⟨by simp [Instr.findKey, run_underlying hk, Instr.findNow], by simp⟩
    | cons e0 es =>
      have hf : (Instr.findKey k (pairV q x) (e0 :: es)).run P w = (Instr.findAsking k (pairV q x) (e0 :: es) 0).run P w := by
        obtain ⟨y, hy⟩ := hes e0 (by simp)
        simp [Instr.findKey, run_underlying hk, Instr.findNow, Instr.sameNow, hy, pairV]
      rcases findAsking_of inj (pair_eq hk he hs) w x (e0 :: es) 0 hes with ⟨h1, h2⟩ | ⟨j, e, h1, h2, h3⟩
      · exact .inl ⟨hf.trans h1, h2⟩
      · exact .inr ⟨j, e, by rw [hf, h1]; simp, h2, h3⟩
  stays := fun w x => by
    have h : Instr.sameBits 10000 (pairV q x) (pairV q x) = true := by rw [show (10000 : Nat) = 9998 + 1 + 1 from rfl]; simp [pairV, Instr.sameBits]
    simp [Instr.keyThatStays, h]
  inj := fun {x y} h => by
    injection h with h; injection h with h; injection h with h1 h2; injection h1 with _ h1; injection h2 with h2 _; injection h2 with _ h2; exact Prod.ext h1 h2

end Go.Proofs.YtgiimmiandhkhaaDoor
