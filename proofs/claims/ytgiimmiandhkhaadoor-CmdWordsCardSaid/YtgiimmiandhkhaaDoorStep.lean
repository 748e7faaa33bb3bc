/- append at a step of a region that draws its order; slices of slices. -/
import Derived.Test.YtgiimmiandhkhaaDoorSl
import Derived.Deep.RegionHeld3
import Derived.Deep.AppendLies
namespace Go.Proofs.YtgiimmiandhkhaaDoor
open Go.RowKit
set_option linter.unusedSimpArgs false
set_option linter.unusedVariables false

section
variable {w w' : World} {α : Type} {E : TypeId} {k : Nat} {enc : α → List Value} {g : Option Nat} {v : Value} {xs : List α}

theorem step_appendO {P : Program} {ops : Array Oper} {o : Oper} {a : Act} {K : Act → World → Prop} {Q : Exit → Act → World → Prop} {X : Prop} (hgd : o.guard = none) {S : TypeId} {s x : Operand} (ho : o.op = .call { callee := .builtin .append, args := #[s, x], argTypes := #[S, S] })
    {bytes : Nat} (ET : ElemT P S E k bytes) (hk : ∀ x, (enc x).length = k) (h1 : ∀ x, ∀ u ∈ enc x, u.oneCell' = true) (h : SlO w E k enc g v xs) (hv : a.eval s = v)
    {As : Option Addr} {cs bs os m : Nat} {ys : List α} (hy : SlR w k enc As cs bs os ys) (hx : a.eval x = .slice As m cs) (hml : m = ys.length) (hb : (xs.length + ys.length) * bytes ≤ 140737488355328) (hm : xs.length + ys.length ≤ maxLen)
    (hK : ∀ v' w' g', SlO w' E k enc g' v' (xs ++ ys) → Ext (fun b => g = some b) w w' → (g' = g ∨ g' = some w.heap.size) → K (a.put o.dst v') w') :
    if Region.wanted o (yielded ops a.tmps) = true then Oper.wp P o a w K Q else X := by
  have hw : Region.wanted o (yielded ops a.tmps) = true := by simp [Region.wanted, hgd]
  rw [if_pos hw]
  subst hml
  obtain ⟨v', w', g', hrun, h2, h3, h4⟩ := h.run_append ET hk h1 hy hb hm o.type
  unfold Oper.wp
  simp [execOp, ho, resolve, invoke, builtin, hv, hx, hrun]
  exact hK v' w' g' h2 h3 h4

/-- The same, its hypotheses in the order in which a tactic can close them. -/
theorem step_appendL {P : Program} {ops : Array Oper} {o : Oper} {a : Act} {K : Act → World → Prop} {Q : Exit → Act → World → Prop} {X : Prop} (S : TypeId) (bytes : Nat) (ET : ElemT P S E k bytes) (hk : ∀ x, (enc x).length = k) (h1 : ∀ x, ∀ u ∈ enc x, u.oneCell' = true) (g : Option Nat) (v : Value) (xs ys : List α) (s x : Operand) (As : Option Addr) (cs bs os m : Nat) (hgd : o.guard = none) (ho : o.op = .call { callee := .builtin .append, args := #[s, x], argTypes := #[S, S] })
    (hv : a.eval s = v) (hx : a.eval x = .slice As m cs) (hml : m = ys.length) (h : SlO w E k enc g v xs) (hy : SlR w k enc As cs bs os ys) (hb : (xs.length + ys.length) * bytes ≤ 140737488355328) (hm : xs.length + ys.length ≤ maxLen)
    (hK : ∀ v' w' g', SlO w' E k enc g' v' (xs ++ ys) → Ext (fun b => g = some b) w w' → (g' = g ∨ g' = some w.heap.size) → K (a.put o.dst v') w') :
    if Region.wanted o (yielded ops a.tmps) = true then Oper.wp P o a w K Q else X :=
  step_appendO hgd ho ET hk h1 h hv hy hx hml hb hm hK

/-- The same over a world w0 of before: its hypotheses stand in the order in which a tactic can close them. -/
theorem step_appendW {P : Program} {ops : Array Oper} {o : Oper} {a : Act} {K : Act → World → Prop} {Q : Exit → Act → World → Prop} {X : Prop} (w0 : World) (S : TypeId) (bytes : Nat) (ET : ElemT P S E k bytes) (hk : ∀ x, (enc x).length = k) (h1 : ∀ x, ∀ u ∈ enc x, u.oneCell' = true) (g : Option Nat) (v : Value) (xs ys : List α) (s x : Operand) (As : Option Addr) (cs bs os m : Nat)
    (hb : (xs.length + ys.length) * bytes ≤ 140737488355328) (hm : xs.length + ys.length ≤ maxLen) (hml : m = ys.length) (hg0 : ∀ q, g = some q → w0.heap.size ≤ q) (hgd : o.guard = none) (ho : o.op = .call { callee := .builtin .append, args := #[s, x], argTypes := #[S, S] })
    (hv : a.eval s = v) (hx : a.eval x = .slice As m cs) (hE : Ext NoB w0 w) (h : SlO w E k enc g v xs) (hy : SlR w k enc As cs bs os ys)
    (hK : ∀ v' w' g', SlO w' E k enc g' v' (xs ++ ys) → Ext (fun b => g = some b) w w' → Ext NoB w0 w' → (∀ q, g' = some q → w0.heap.size ≤ q) → K (a.put o.dst v') w') :
    if Region.wanted o (yielded ops a.tmps) = true then Oper.wp P o a w K Q else X :=
  step_appendO hgd ho ET hk h1 h hv hy hx hml hb hm (fun v' w' g' h2 h3 h4 => hK v' w' g' h2 h3 (hE.trans h3 (fun i hi e => absurd (hg0 i e) (by omega))) (fun q hq => by
    have := hE.size
    rcases h4 with h4 | h4
    · rw [h4] at hq; exact hg0 q hq
    · rw [h4] at hq; simp at hq; omega))

/-- v[:n]. -/
theorem SlR.take {w : World} {A : Option Addr} {c b o n : Nat} (h : SlR w k enc A c b o xs) (hk : ∀ x, (enc x).length = k) (hn : n ≤ xs.length) : SlR w k enc A c b o (xs.take n) := by
  have hle := h.le
  refine ⟨fun hp => h.addr (by rw [List.length_take] at hp; omega), by rw [List.length_take]; omega, h.max, fun j u hu => h.row j u ?_⟩
  have e : xs.flatMap enc = (xs.take n).flatMap enc ++ (xs.drop n).flatMap enc := by rw [← List.flatMap_append, List.take_append_drop]
  rw [e, List.getElem?_append_left (List.getElem?_eq_some_iff.1 hu).1]
  exact hu
/-- v[n:], of one cell an element. -/
theorem SlR.drop {w : World} {enc : α → List Value} {A A' : Option Addr} {c b o n : Nat} (h : SlR w 1 enc A c b o xs) (hk : ∀ x, (enc x).length = 1) (hn : n ≤ xs.length) (hA : n < xs.length → A' = some ⟨b, o + n, none⟩) : SlR w 1 enc A' (c - n) b (o + n) (xs.drop n) := by
  have hle := h.le
  have hmx := h.max
  refine ⟨fun hp => hA (by rw [List.length_drop] at hp; omega), by rw [List.length_drop]; omega, by omega, fun j u hu => ?_⟩
  have e : xs.flatMap enc = (xs.take n).flatMap enc ++ (xs.drop n).flatMap enc := by rw [← List.flatMap_append, List.take_append_drop]
  have hl : ((xs.take n).flatMap enc).length = n := by rw [flat_len hk, List.length_take]; omega
  rw [show o + n + j = o + (n + j) by omega]
  refine h.row (n + j) u ?_
  rw [e, List.getElem?_append_right (by omega), hl, show n + j - n = j by omega]
  exact hu
end
end Go.Proofs.YtgiimmiandhkhaaDoor
