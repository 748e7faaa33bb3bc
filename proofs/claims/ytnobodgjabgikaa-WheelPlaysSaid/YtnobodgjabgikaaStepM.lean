/- Maps at a step of a region that draws its order. -/
import Derived.Test.YtnobodgjabgikaaU
namespace Go.Proofs.Ytnobodgjabgikaa
open Go.RowKit
set_option linter.unusedSimpArgs false
set_option linter.unusedVariables false

section
variable {K V : Type} {ek : K → Value} {ev : V → Value} {w w' : World} {r : Nat} {m : List (K × V)}
theorem step_mapPut [DecidableEq K] {P : Program} {ops : Array Oper} {o : Oper} {a : Act} {N : Act → World → Prop} {Q : Exit → Act → World → Prop} {X : Prop} (hgd : o.guard = none) {t k e : TypeId} {om ox ov : Operand} (ho : o.op = .mapUpdate t om ox ov)
    (KE : KeyEnc P k ek) (ht : P.underlying t = some (.map k e)) (h : MapAt w r ek ev m) (hm : a.eval om = .map (some r)) (x : K) (hx : a.eval ox = ek x) (v : V) (hv : a.eval ov = ev v)
    (hK : ∀ w', MapAt w' r ek ev (mput m x v) → Ext (· = r) w w' → N (a.put o.dst undef) w') : if Region.wanted o (yielded ops a.tmps) = true then Oper.wp P o a w N Q else X := by
  have hw : Region.wanted o (yielded ops a.tmps) = true := by simp [Region.wanted, hgd]
  rw [if_pos hw]
  obtain ⟨w', hrun, h1, h2⟩ := h.run_update KE ht x v
  unfold Oper.wp
  simp [execOp, ho, hm, hx, hv, hrun]
  exact hK w' h1 h2

theorem lookup_yields [DecidableEq K] {P : Program} {o : Oper} {a : Act} {t k e : TypeId} {om ox : Operand} (ho : o.op = .lookup t om ox false)
    (KE : KeyEnc P k ek) (ht : P.underlying t = some (.map k e)) {z : V} (hz : ∀ w, (zeroValue e).run P w = .ok (ev z) w) (h : MapAt w r ek ev m) (hm : a.eval om = .map (some r)) (x : K) (hx : a.eval ox = ek x) :
    (execOp a.eval o).run P w = .ok (.value (ev ((mget m x).getD z))) w := by
  have := h.run_lookup KE ht hz x false
  simp only [Bool.false_eq_true, if_false] at this
  simp [execOp, ho, hm, hx, this]
end
end Go.Proofs.Ytnobodgjabgikaa
