/- Slices that a function owns: append, at whatever offset. -/
import Derived.Test.YtgiimmiandhkhaaDoorBase
import Derived.Laws.AppendOwn
namespace Go.Proofs.YtgiimmiandhkhaaDoor
open Go.RowKit
set_option linter.unusedSimpArgs false
set_option linter.unusedVariables false

/-- S is []E; an E has k cells. -/
structure ElemT (P : Program) (S E : TypeId) (k bytes : Nat) : Prop where
  slice : P.underlying S = some (.slice E)
  info : ∃ i z, P.info? E = some i ∧ i.zero = some z ∧ i.size = k ∧ i.bytes = bytes ∧ z.cells.size = k
  pos : 0 < k

theorem elemT_of {P : Program} {S E : TypeId} {k bytes : Nat} {z : Value} (h1 : P.underlying S = some (.slice E)) (h2 : (P.info? E).map (fun i => (i.zero, i.size, i.bytes)) = some (some z, k, bytes)) (h3 : z.cells.size = k) (h4 : 0 < k) : ElemT P S E k bytes := by
  refine ⟨h1, ?_, h4⟩
  obtain ⟨i, hi, hz, hs, hb⟩ := info_parts h2
  exact ⟨i, z, hi, hz, hs, hb, h3⟩

/-- The slice v is the call's own, in block g (none: it is nil): it reads as xs. -/
def SlO (w : World) {α : Type} (E : TypeId) (k : Nat) (enc : α → List Value) (g : Option Nat) (v : Value) (xs : List α) : Prop :=
  (v = .slice none 0 0 ∧ xs = [] ∧ g = none) ∨
  ∃ b o c cur, g = some b ∧ v = .slice (some ⟨b, o, none⟩) xs.length c ∧ w.heap[b]? = some (.cells cur E (0, 0)) ∧ xs.length ≤ c ∧ c ≤ maxLen ∧ o + c * k ≤ cur.size ∧ (cur.toList.drop o).take (xs.length * k) = xs.flatMap enc

section
variable {w w' : World} {α : Type} {E : TypeId} {k : Nat} {enc : α → List Value} {g : Option Nat} {v : Value} {xs : List α}

theorem SlO.nil (w : World) (E : TypeId) (k : Nat) (enc : α → List Value) : SlO w E k enc none (.slice none 0 0) ([] : List α) := .inl ⟨rfl, rfl, rfl⟩

theorem SlO.lt (h : SlO w E k enc g v xs) {b : Nat} (hb : g = some b) : b < w.heap.size := by
  rcases h with ⟨_, _, hg⟩ | ⟨b', o, c, cur, hg, _, hh, _⟩
  · rw [hg] at hb; cases hb
  · rw [hg] at hb; cases hb; exact lt_of_block hh

theorem SlO.keep {F : Nat → Prop} (h : SlO w E k enc g v xs) (x : Ext F w w') (hn : ∀ b, g = some b → ¬ F b) : SlO w' E k enc g v xs := by
  rcases h with h | ⟨b, o, c, cur, hg, hv, hh, rest⟩
  · exact .inl h
  · exact .inr ⟨b, o, c, cur, hg, hv, x.keep hh (hn b hg), rest⟩

theorem SlO.row (h : SlO w E k enc g v xs) {b o c : Nat} {A : Option Addr} (hv : v = .slice (some ⟨b, o, none⟩) xs.length c) : Row w b o (xs.flatMap enc) := by
  rcases h with ⟨h, _⟩ | ⟨b', o', c', cur, hg, hv', hh, hl, hm, hc, ht⟩
  · rw [h] at hv; cases hv
  · rw [hv'] at hv
    simp only [Value.slice.injEq, Option.some.injEq, Addr.mk.injEq] at hv
    obtain ⟨⟨rfl, rfl, _⟩, _, rfl⟩ := hv
    intro j u hu
    rw [cell_of_row w b' (o' + j) cur E (0, 0) hh]
    rw [← ht, List.getElem?_take] at hu
    split at hu
    · simpa using hu
    · cases hu

/-- As a slice that is read. -/
theorem SlO.read (h : SlO w E k enc g v xs) : ∃ A c b o, v = .slice A xs.length c ∧ SlR w k enc A c b o xs ∧ (0 < xs.length → g = some b) := by
  rcases h with ⟨rfl, rfl, rfl⟩ | ⟨b, o, c, cur, hg, hv, hh, hl, hm, hc, ht⟩
  · exact ⟨none, 0, 0, 0, rfl, ⟨by simp, by simp, by simp [maxLen], by intro j u hu; simp at hu⟩, by simp⟩
  · have h : SlO w E k enc g v xs := .inr ⟨b, o, c, cur, hg, hv, hh, hl, hm, hc, ht⟩
    exact ⟨_, c, b, o, hv, ⟨fun _ => rfl, hl, hm, h.row (A := none) hv⟩, fun _ => hg⟩

theorem mul_le_of {a b k : Nat} (h : a ≤ b) : a * k ≤ b * k := Nat.mul_le_mul_right _ h

/-- append. -/
theorem SlO.run_append {P : Program} {S : TypeId} {bytes : Nat} (ET : ElemT P S E k bytes) (hk : ∀ x, (enc x).length = k) (h1 : ∀ x, ∀ u ∈ enc x, u.oneCell' = true) (h : SlO w E k enc g v xs)
    {As : Option Addr} {cs bs os : Nat} {ys : List α} (hy : SlR w k enc As cs bs os ys) (hb : (xs.length + ys.length) * bytes ≤ 140737488355328) (hm : xs.length + ys.length ≤ maxLen) (ty : TypeId) :
    ∃ v' w' g', (Builtin.append_ #[S, S] ty #[v, .slice As ys.length cs]).run P w = .ok v' w' ∧ SlO w' E k enc g' v' (xs ++ ys) ∧ Ext (fun b => g = some b) w w' ∧ (g' = g ∨ g' = some w.heap.size) := by
  obtain ⟨i, z, hi, hz, hs, hby, hzs⟩ := ET.info
  have hsmall : xs.length + ys.length ≤ 9223372036854775807 := by simp only [maxLen] at hm; omega
  by_cases hys : ys.length = 0
  · have hy0 : ys = [] := List.eq_nil_of_length_eq_zero hys
    subst hy0
    refine ⟨v, w, g, ?_, by simpa using h, Ext.refl _ _, .inl rfl⟩
    have hfc : ∀ w : World, (Builtin.firstCells k 0 (.slice As 0 cs)).run P w = .ok #[] w := by
      intro w; cases As <;> simp [Builtin.firstCells, loadCells, loadCellsFrom]
    rcases h with ⟨rfl, rfl, rfl⟩ | ⟨b, o, c, cur, hg, rfl, hh, hl, hmx, hc, ht⟩
    · simp [Builtin.append_, run_underlying ET.slice, sizeOf, typeInfo, hi, hs, Builtin.lenOf, hfc]
    · simp [Builtin.append_, run_underlying ET.slice, sizeOf, typeInfo, hi, hs, Builtin.lenOf, hfc, hl, storeCells]
  have hys' : 0 < ys.length := by omega
  obtain rfl := hy.addr hys'
  have hnews : ∀ j u, (ys.flatMap enc)[j]? = some u → w.cell? ((⟨bs, os, none⟩ : Addr).add j) = some u := fun j u hu => by rw [Addr.add_lit]; exact hy.row j u hu
  have hl : (ys.flatMap enc).length = ys.length * i.size := by rw [flat_len hk, hs]
  have hone : ∀ u ∈ ys.flatMap enc, u.oneCell' = true := fun u hu => by obtain ⟨x, _, hx⟩ := List.mem_flatMap.1 hu; exact h1 x u hx
  rcases h with ⟨rfl, rfl, rfl⟩ | ⟨b, o, c, cur, hg, rfl, hh, hlc, hmx, hc, ht⟩
  · have hr := run_append_nil (P := P) w S ty E i z ET.slice hi hz ⟨bs, os, none⟩ ys.length cs (ys.flatMap enc) hl hnews hys' (by simp at hsmall; omega) (by rw [hby]; simp at hb; omega)
    refine ⟨_, _, some w.heap.size, hr, .inr ⟨w.heap.size, 0, grownCap w ys.length 0 E, _, rfl, by simp, heap_alloc_new w.drew _, ?_, ?_, ?_, ?_⟩, ⟨rfl, rfl, rfl, by simp, fun q hq _ => Below.heap_alloc w.drew _ q hq⟩, .inr rfl⟩
    · simp; exact grownCap_ge w _ 0 E
    · exact grownCap_le_maxLen w _ 0 E (by simpa using hm)
    · have := grownCap_ge w ys.length 0 E
      simp only [Array.size_append, List.size_toArray, size_zeroCells, hzs, hl, hs, ← Nat.add_mul, Nat.zero_add]
      apply Nat.mul_le_mul_right; omega
    · simp only [Array.toList_append, List.drop_zero, List.nil_append]
      rw [← hs, ← hl]
      exact List.take_left
  · subst hg
    have holds : ∀ j u, (xs.flatMap enc)[j]? = some u → w.cell? ((⟨b, o, none⟩ : Addr).add j) = some u := by
      intro j u hu
      rw [Addr.add_lit]
      exact SlO.row (A := none) (.inr ⟨b, o, c, cur, rfl, rfl, hh, hlc, hmx, hc, ht⟩) rfl j u hu
    have hlo : (xs.flatMap enc).length = xs.length * i.size := by rw [flat_len hk, hs]
    by_cases hroom : xs.length + ys.length ≤ c
    · have hfit : o + xs.length * k + (ys.flatMap enc).length ≤ cur.size := by
        rw [flat_len hk, Nat.add_assoc, ← Nat.add_mul]
        exact Nat.le_trans (Nat.add_le_add_left (mul_le_of hroom) o) hc
      have hf := run_firstCells_some (P := P) w i.size ys.length ⟨bs, os, none⟩ ys.length cs (ys.flatMap enc) hl hnews
      have hst := run_storeCells_at P b (o + xs.length * k) E (ys.flatMap enc) 0 cur w hh (by simpa using hfit) hone
      simp only [Nat.add_zero] at hst
      rw [hs] at hf
      refine ⟨.slice (some ⟨b, o, none⟩) (xs.length + ys.length) c, w.setRow b (cur.toList.take (o + xs.length * k) ++ ys.flatMap enc ++ cur.toList.drop (o + xs.length * k + (ys.flatMap enc).length)).toArray, some b, ?_, ?_, ?_, .inl rfl⟩
      · simp [Builtin.append_, run_underlying ET.slice, sizeOf, typeInfo, hi, hs, Builtin.lenOf, hroom, hf, Addr.add_lit, hst]
      · refine .inr ⟨b, o, c, _, rfl, by simp, setRow_heap w b cur _ E _ hh, by simpa using hroom, hmx, ?_, ?_⟩
        · simp only [List.size_toArray, List.length_append, List.length_take, List.length_drop, Array.length_toList]
          omega
        · have hxl : xs.length * k ≤ c * k := mul_le_of hlc
          have hcl : cur.toList.length = cur.size := Array.length_toList
          rw [List.flatMap_append, ← ht]
          have e1 : (cur.toList.take (o + xs.length * k)).drop o = (cur.toList.drop o).take (xs.length * k) := by
            rw [List.drop_take]; congr 1; omega
          have e2 : o ≤ (cur.toList.take (o + xs.length * k)).length := by rw [List.length_take]; omega
          simp only [List.append_assoc]
          rw [List.drop_append_of_le_length e2, e1]
          have e3 : ((cur.toList.drop o).take (xs.length * k) ++ ys.flatMap enc).length = (xs ++ ys).length * k := by
            rw [List.length_append, flat_len hk, List.length_take, List.length_drop, List.length_append, Nat.add_mul]; omega
          rw [← List.append_assoc, ← e3]
          exact List.take_left
      · exact ⟨rfl, rfl, rfl, by simp, fun q _ hq => setRow_other w b q _ (fun e => hq (by rw [e]))⟩
    · have hr := run_append_grow (P := P) w S ty E i z ET.slice hi hz ⟨b, o, none⟩ xs.length c (xs.flatMap enc) hlo holds ⟨bs, os, none⟩ ys.length cs (ys.flatMap enc) hl hnews (by omega) (by omega) (growslice_fits (by omega) (by rw [hby]; exact hb))
      have hge := grownCap_ge w (xs.length + ys.length) c E
      refine ⟨_, _, some w.heap.size, hr, .inr ⟨w.heap.size, 0, grownCap w (xs.length + ys.length) c E, _, rfl, by simp, heap_alloc_new w.drew _, by simpa using hge, grownCap_le_maxLen w _ c E hm, ?_, ?_⟩, ⟨rfl, rfl, rfl, by simp, fun q hq _ => Below.heap_alloc w.drew _ q hq⟩, .inr rfl⟩
      · simp only [Array.size_append, List.size_toArray, size_zeroCells, hzs, hl, hlo, hs, ← Nat.add_mul, Nat.zero_add]
        apply Nat.mul_le_mul_right; omega
      · simp only [Array.toList_append, List.drop_zero, List.append_assoc, List.flatMap_append]
        have e3 : (xs.flatMap enc ++ ys.flatMap enc).length = (xs ++ ys).length * k := by
          rw [List.length_append, flat_len hk, flat_len hk, List.length_append, Nat.add_mul]
        rw [← List.append_assoc, ← e3]
        exact List.take_left

/-- append, at the operation. -/
theorem wpList_appendO {P : Program} {ops : Array Oper} {rest : List Oper} {o : Oper} {a : Act} {Q : Exit → Act → World → Prop} (hgd : o.guard = none) {S : TypeId} {s x : Operand} (ho : o.op = .call { callee := .builtin .append, args := #[s, x], argTypes := #[S, S] })
    {bytes : Nat} (ET : ElemT P S E k bytes) (hk : ∀ x, (enc x).length = k) (h1 : ∀ x, ∀ u ∈ enc x, u.oneCell' = true) (h : SlO w E k enc g v xs) (hv : a.eval s = v)
    {As : Option Addr} {cs bs os m : Nat} {ys : List α} (hy : SlR w k enc As cs bs os ys) (hx : a.eval x = .slice As m cs) (hml : m = ys.length) (hb : (xs.length + ys.length) * bytes ≤ 140737488355328) (hm : xs.length + ys.length ≤ maxLen)
    (hK : ∀ v' w' g', SlO w' E k enc g' v' (xs ++ ys) → Ext (fun b => g = some b) w w' → (g' = g ∨ g' = some w.heap.size) → wpList P ops Q rest (a.put o.dst v') w') : wpList P ops Q (o :: rest) a w := by
  refine wpList_plain hgd fun K' hK' => ?_
  subst hml
  obtain ⟨v', w', g', hrun, h2, h3, h4⟩ := h.run_append ET hk h1 hy hb hm o.type
  unfold Oper.wp
  simp [execOp, ho, resolve, invoke, builtin, hv, hx, hrun]
  exact hK' _ _ (hK v' w' g' h2 h3 h4)

/-- One element that has just been laid. -/
theorem SlR.one (w : World) (x : α) (E : TypeId) : SlR (w.alloc (.cells (enc x).toArray E)) k enc (some ⟨w.heap.size, 0, none⟩) 1 w.heap.size 0 [x] :=
  ⟨fun _ => rfl, Nat.le_refl _, by simp [maxLen], by
    intro j u hu
    rw [cell_of_row _ w.heap.size (0 + j) _ E (0, 0) (alloc_at w _)]
    simpa using hu⟩

theorem alloc_at' (w : World) (o : Obj) (n : Nat) (h : n = w.heap.size) : (w.alloc o).heap[n]? = some o := by subst h; exact alloc_at w o
theorem SlR.one' {x : α} {E : TypeId} {b : Nat} {cs : Array Value} {fr : Nat × Nat} (h : w.heap[b]? = some (.cells cs E fr)) (hcs : cs.toList = enc x) : SlR w k enc (some ⟨b, 0, none⟩) 1 b 0 [x] :=
  ⟨fun _ => rfl, Nat.le_refl _, by simp [maxLen], by
    intro j u hu
    rw [cell_of_row _ b (0 + j) _ E fr h]
    simp only [List.flatMap_cons, List.flatMap_nil, List.append_nil, ← hcs] at hu
    simpa using hu⟩

/-- A new block as a slice. -/
theorem SlO.made {b : Nat} {cs : Array Value} (h : w.heap[b]? = some (.cells cs E (0, 0))) (hcs : cs.toList = xs.flatMap enc) (hk : ∀ x, (enc x).length = k) (hm : xs.length ≤ maxLen) : SlO w E k enc (some b) (.slice (some ⟨b, 0, none⟩) xs.length xs.length) xs := by
  have hsz : cs.size = xs.length * k := by rw [← flat_len hk, ← hcs]; simp
  exact .inr ⟨b, 0, xs.length, cs, rfl, rfl, h, Nat.le_refl _, hm, by omega, by rw [List.drop_zero, ← hcs]; exact List.take_of_length_le (by rw [Array.length_toList]; omega)⟩

/-- v[1:], of one cell an element. -/
theorem SlO.tail {E : TypeId} {enc : α → List Value} {x : α} {b o c : Nat} (hk : ∀ x, (enc x).length = 1) (h : SlO w E 1 enc g (.slice (some ⟨b, o, none⟩) (xs.length + 1) c) (x :: xs)) (a : Addr) (ha : a = if c = 1 then ⟨b, o, none⟩ else ⟨b, o + 1, none⟩) :
    SlO w E 1 enc g (.slice (some a) xs.length (c - 1)) xs := by
  subst ha
  rcases h with ⟨h, _⟩ | ⟨b', o', c', cur, hg, hv, hh, hl, hm, hc, ht⟩
  · cases h
  · simp only [Value.slice.injEq, Option.some.injEq, Addr.mk.injEq] at hv
    obtain ⟨⟨rfl, rfl, _⟩, _, rfl⟩ := hv
    simp only [List.length_cons, Nat.mul_one] at hl hc ht
    by_cases h1 : c = 1
    · subst h1
      have hx0 : xs = [] := List.eq_nil_of_length_eq_zero (by omega)
      subst hx0
      exact .inr ⟨b, o, 0, cur, hg, by simp, hh, by simp, by omega, by omega, by simp⟩
    · refine .inr ⟨b, o + 1, c - 1, cur, hg, by simp [h1], hh, by omega, by omega, by omega, ?_⟩
      rw [Nat.mul_one]
      have h2 : (enc x).length = 1 := hk x
      match hx : enc x, h2 with
      | [u], _ =>
        simp only [List.flatMap_cons, hx, List.cons_append, List.nil_append] at ht
        have h3 := congrArg List.tail ht
        rw [List.tail_cons] at h3
        rw [← h3, ← List.drop_one, List.drop_take, List.drop_drop]
        simp [Nat.add_comm]

/-- A slice that is owned is read, told by its parts. -/
theorem SlO.get (h : SlO w E k enc g v xs) : v = .slice none 0 0 ∨ ∃ b o c, v = .slice (some ⟨b, o, none⟩) xs.length c := by
  rcases h with ⟨h, _⟩ | ⟨b, o, c, _, _, h, _⟩
  · exact .inl h
  · exact .inr ⟨b, o, c, h⟩

end
end Go.Proofs.YtgiimmiandhkhaaDoor
