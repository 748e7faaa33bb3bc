/- copy, clear, append of a make: on rows that a function owns, told by their parts. -/
import Derived.Test.YtnobodgjabgikaaSl
import Derived.Laws.CopyRow
import Derived.Lib.AppendZerosOnto
namespace Go.Proofs.Ytnobodgjabgikaa
open Go.RowKit
set_option linter.unusedSimpArgs false
set_option linter.unusedVariables false

section
variable {P : Program} {w : World} {α : Type} {E : TypeId} {k : Nat} {enc : α → List Value}

theorem setRow_toArray (w : World) (g : Nat) {xs ys : List Value} (h : xs = ys) : w.setRow g xs.toArray = w.setRow g ys.toArray := by rw [h]

/-- Cells are stored into the midst of a row. -/
theorem run_storeP {b : Nat} {cur : Array Value} (hb : w.heap[b]? = some (.cells cur E (0, 0))) (p d r vs : List Value) (hc : cur.toList = p ++ d ++ r) (hd : d.length = vs.length) (h1 : ∀ u ∈ vs, u.oneCell' = true) :
    (storeCells ⟨b, p.length, none⟩ vs).run P w = .ok () (w.setRow b (p ++ vs ++ r).toArray) := by
  have hl : cur.size = p.length + d.length + r.length := by rw [← Array.length_toList, hc]; simp; omega
  have := run_storeCells_at P b p.length E vs 0 cur w hb (by omega) h1
  rw [this]
  congr 1
  refine setRow_toArray w b ?_
  rw [hc, Nat.add_zero]
  have e1 : (p ++ d ++ r).take p.length = p := by rw [List.append_assoc]; exact List.take_left
  have e2 : (p ++ d ++ r).drop (p.length + vs.length) = r := by rw [← hd, ← List.length_append]; exact List.drop_left
  rw [e1, e2]

/-- copy into the midst of a row. -/
theorem run_copyP {S : TypeId} {bytes : Nat} (ET : ElemT P S E k bytes) {b : Nat} {cur : Array Value} (hb : w.heap[b]? = some (.cells cur E (0, 0))) (p d r vs : List Value) (hc : cur.toList = p ++ d ++ r) (hd : d.length = vs.length) (h1 : ∀ u ∈ vs, u.oneCell' = true)
    (n dLen dCap sLen sCap : Nat) (As : Addr) (hv : vs.length = n * k) (hn : Nat.min sLen dLen = n) (hsrc : ∀ j u, vs[j]? = some u → w.cell? (As.add j) = some u) (ty : TypeId) :
    (Builtin.copy_ #[S, S] ty #[.slice (some ⟨b, p.length, none⟩) dLen dCap, .slice (some As) sLen sCap]).run P w = .ok (goInt n) (w.setRow b (p ++ vs ++ r).toArray) := by
  obtain ⟨i, z, hi, hz, hs, hby, hzs⟩ := ET.info
  have hf := run_firstCells_some (P := P) w i.size n As sLen sCap vs (by rw [hs]; exact hv) hsrc
  have hst := run_storeP (P := P) hb p d r vs hc hd h1
  simp [Builtin.copy_, run_underlying ET.slice, Builtin.lenOf, sizeOf, typeInfo, hi, hn, hf, hst]

/-- clear of a part of a row. -/
theorem run_clearP {S : TypeId} {z : Value} (hS : P.underlying S = some (.slice E)) (hz : ∀ w, (zeroValue E).run P w = .ok z w) (hzs : z.cells.size = k) (h1 : ∀ u ∈ (Builtin.zeroCells z.cells 1).toList, u.oneCell' = true) {b : Nat} {cur : Array Value} (hb : w.heap[b]? = some (.cells cur E (0, 0))) (p d r : List Value) (hc : cur.toList = p ++ d ++ r) (hd : d.length = k) (c : Nat) (ty : TypeId) :
    (Builtin.clear_ #[S] ty #[.slice (some ⟨b, p.length, none⟩) 1 c]).run P w = .ok (.tuple #[]) (w.setRow b (p ++ (Builtin.zeroCells z.cells 1).toList ++ r).toArray) := by
  have hst := run_storeP (P := P) hb p d r (Builtin.zeroCells z.cells 1).toList hc (by rw [hd, Array.length_toList, size_zeroCells, hzs, Nat.one_mul]) h1
  simp [Builtin.clear_, run_underlying hS, hz, hst]

/-- append where there is room. -/
theorem run_roomP {S : TypeId} {bytes : Nat} (ET : ElemT P S E k bytes) {b : Nat} {cur : Array Value} (hb : w.heap[b]? = some (.cells cur E (0, 0))) (p d r vs : List Value) (hc : cur.toList = p ++ d ++ r) (hd : d.length = vs.length) (h1 : ∀ u ∈ vs, u.oneCell' = true)
    (o len cap n sLen sCap : Nat) (As : Addr) (hp : p.length = o + len * k) (hroom : len + n ≤ cap) (hv : vs.length = n * k) (hsl : sLen = n) (hsrc : ∀ j u, vs[j]? = some u → w.cell? (As.add j) = some u) (ty : TypeId) :
    (Builtin.append_ #[S, S] ty #[.slice (some ⟨b, o, none⟩) len cap, .slice (some As) sLen sCap]).run P w = .ok (.slice (some ⟨b, o, none⟩) (len + n) cap) (w.setRow b (p ++ vs ++ r).toArray) := by
  obtain ⟨i, z, hi, hz, hs, hby, hzs⟩ := ET.info
  subst hsl
  have hf := run_firstCells_some (P := P) w i.size sLen As sLen sCap vs (by rw [hs]; exact hv) hsrc
  have hst := run_storeP (P := P) hb p d r vs hc hd h1
  rw [hs] at hf
  rw [hp] at hst
  simp [Builtin.append_, run_underlying ET.slice, sizeOf, typeInfo, hi, hs, Builtin.lenOf, hroom, hf, Addr.add_lit, hst]

/-- The parts of a row that is owned. -/
theorem SlO.parts {g : Option Nat} {v : Value} {xs : List α} (hk : ∀ x, (enc x).length = k) (h : SlO w E k enc g v xs) (hne : v ≠ .slice none 0 0) : ∃ b c cur p r, g = some b ∧ v = .slice (some ⟨b, p.length, none⟩) xs.length c ∧ w.heap[b]? = some (.cells cur E (0, 0)) ∧ xs.length ≤ c ∧ c ≤ maxLen ∧ cur.toList = p ++ xs.flatMap enc ++ r ∧ (c - xs.length) * k ≤ r.length := by
  rcases h with ⟨h, _, _⟩ | ⟨b, o, c, cur, hg, hv, hh, hl, hm, hf, ht⟩
  · exact absurd h hne
  · have hcl : cur.toList.length = cur.size := Array.length_toList
    have hok : o ≤ cur.toList.length := by omega
    have e : cur.toList = cur.toList.take o ++ xs.flatMap enc ++ cur.toList.drop (o + xs.length * k) := by
      rw [← ht, List.append_assoc, ← List.drop_drop, List.take_append_drop, List.take_append_drop]
    have hp : (cur.toList.take o).length = o := by rw [List.length_take]; omega
    refine ⟨b, c, cur, cur.toList.take o, cur.toList.drop (o + xs.length * k), hg, by rw [hp]; exact hv, hh, hl, hm, e, ?_⟩
    rw [List.length_drop, Nat.sub_mul]
    omega

theorem SlO.of_parts {b c : Nat} {cur : Array Value} {p r : List Value} {xs : List α} (hk : ∀ x, (enc x).length = k) (hh : w.heap[b]? = some (.cells cur E (0, 0))) (hl : xs.length ≤ c) (hm : c ≤ maxLen) (hc : cur.toList = p ++ xs.flatMap enc ++ r) (hr : (c - xs.length) * k ≤ r.length) :
    SlO w E k enc (some b) (.slice (some ⟨b, p.length, none⟩) xs.length c) xs := by
  refine .inr ⟨b, p.length, c, cur, rfl, rfl, hh, hl, hm, ?_, ?_⟩
  · have := congrArg List.length hc
    rw [Array.length_toList] at this
    simp only [List.length_append, flat_len hk] at this
    rw [Nat.sub_mul] at hr
    have := Nat.mul_le_mul_right k hl
    omega
  · rw [hc, List.append_assoc, List.drop_left, ← flat_len hk xs]
    exact List.take_left

theorem ext_setRow (w : World) (b : Nat) (cs : Array Value) : Ext (fun q => q = b) w (w.setRow b cs) := ⟨rfl, rfl, rfl, by simp [World.setRow], fun q _ hq => setRow_other w b q cs hq⟩

/-- A part of a row is read. -/
theorem read_part {b : Nat} {cur : Array Value} (hb : w.heap[b]? = some (.cells cur E (0, 0))) {p vs r : List Value} (hc : cur.toList = p ++ vs ++ r) (j : Nat) (u : Value) (hu : vs[j]? = some u) : w.cell? ⟨b, p.length + j, none⟩ = some u := by
  rw [cell_of_row w b (p.length + j) cur E (0, 0) hb, ← Array.getElem?_toList, hc, List.append_assoc, List.getElem?_append_right (by omega), show p.length + j - p.length = j by omega, List.getElem?_append_left (List.getElem?_eq_some_iff.1 hu).1]
  exact hu
end

/-- Nothing: for a region in which nothing is loaded. -/
def Tr (_ : World) : Prop := True
theorem tr (w : World) : Tr w := trivial

/-- A builtin whose run is known, at the operation. -/
theorem wpList_copyR {P : Program} {w : World} {ops : Array Oper} {rest : List Oper} {o : Oper} {a : Act} {Q : Exit → Act → World → Prop} (hgd : o.guard = none) (d s : Operand) (t t' : TypeId)
    (ho : o.op = .call { callee := .builtin .copy, args := #[d, s], argTypes := #[t, t'] }) (v u : Value) (hd : a.eval d = v) (hs : a.eval s = u) {v' : Value} {w' : World}
    (hr : (Builtin.copy_ #[t, t'] o.type #[v, u]).run P w = .ok v' w') (h : wpList P ops Q rest (a.put o.dst v') w') : wpList P ops Q (o :: rest) a w := by
  refine wpList_plain hgd fun K' hK' => ?_
  unfold Oper.wp
  simp [execOp, ho, resolve, invoke, builtin, hd, hs, hr]
  exact hK' _ _ h
theorem wpList_appR {P : Program} {w : World} {ops : Array Oper} {rest : List Oper} {o : Oper} {a : Act} {Q : Exit → Act → World → Prop} (hgd : o.guard = none) (d s : Operand) (t t' : TypeId)
    (ho : o.op = .call { callee := .builtin .append, args := #[d, s], argTypes := #[t, t'] }) (v u : Value) (hd : a.eval d = v) (hs : a.eval s = u) {v' : Value} {w' : World}
    (hr : (Builtin.append_ #[t, t'] o.type #[v, u]).run P w = .ok v' w') (h : wpList P ops Q rest (a.put o.dst v') w') : wpList P ops Q (o :: rest) a w := by
  refine wpList_plain hgd fun K' hK' => ?_
  unfold Oper.wp
  simp [execOp, ho, resolve, invoke, builtin, hd, hs, hr]
  exact hK' _ _ h
theorem wpList_clearR {P : Program} {w : World} {ops : Array Oper} {rest : List Oper} {o : Oper} {a : Act} {Q : Exit → Act → World → Prop} (hgd : o.guard = none) (d : Operand) (t : TypeId)
    (ho : o.op = .call { callee := .builtin .clear, args := #[d], argTypes := #[t] }) (v : Value) (hd : a.eval d = v) {v' : Value} {w' : World}
    (hr : (Builtin.clear_ #[t] o.type #[v]).run P w = .ok v' w') (h : wpList P ops Q rest (a.put o.dst v') w') : wpList P ops Q (o :: rest) a w := by
  refine wpList_plain hgd fun K' hK' => ?_
  unfold Oper.wp
  simp [execOp, ho, resolve, invoke, builtin, hd, hr]
  exact hK' _ _ h
theorem step_copyR {P : Program} {w : World} {ops : Array Oper} {o : Oper} {a : Act} {K : Act → World → Prop} {Q : Exit → Act → World → Prop} {X : Prop} (hgd : o.guard = none) (d s : Operand) (t t' : TypeId)
    (ho : o.op = .call { callee := .builtin .copy, args := #[d, s], argTypes := #[t, t'] }) (v u : Value) (hd : a.eval d = v) (hs : a.eval s = u) {v' : Value} {w' : World}
    (hr : (Builtin.copy_ #[t, t'] o.type #[v, u]).run P w = .ok v' w') (h : K (a.put o.dst v') w') : if Region.wanted o (yielded ops a.tmps) = true then Oper.wp P o a w K Q else X := by
  have hw : Region.wanted o (yielded ops a.tmps) = true := by simp [Region.wanted, hgd]
  rw [if_pos hw]
  unfold Oper.wp
  simp [execOp, ho, resolve, invoke, builtin, hd, hs, hr]
  exact h
theorem step_appR {P : Program} {w : World} {ops : Array Oper} {o : Oper} {a : Act} {K : Act → World → Prop} {Q : Exit → Act → World → Prop} {X : Prop} (hgd : o.guard = none) (d s : Operand) (t t' : TypeId)
    (ho : o.op = .call { callee := .builtin .append, args := #[d, s], argTypes := #[t, t'] }) (v u : Value) (hd : a.eval d = v) (hs : a.eval s = u) {v' : Value} {w' : World}
    (hr : (Builtin.append_ #[t, t'] o.type #[v, u]).run P w = .ok v' w') (h : K (a.put o.dst v') w') : if Region.wanted o (yielded ops a.tmps) = true then Oper.wp P o a w K Q else X := by
  have hw : Region.wanted o (yielded ops a.tmps) = true := by simp [Region.wanted, hgd]
  rw [if_pos hw]
  unfold Oper.wp
  simp [execOp, ho, resolve, invoke, builtin, hd, hs, hr]
  exact h

end Go.Proofs.Ytnobodgjabgikaa
