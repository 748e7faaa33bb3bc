/- The commands: the document's Same; what the document fixes (awake); CmdParses. Began as texts of dag's and of CmH's. -/
import Derived.Test.YtgiimmiandhkhaaDoorProg
import Derived.Test.YtgiimmiandhkhaaDoorCmJ
namespace Go.Proofs.YtgiimmiandhkhaaDoor
open Go.RowKit
set_option linter.unusedSimpArgs false
set_option linter.unusedVariables false

/-! ### awake -/
def awS24 : List UInt8 := [115, 117, 98, 109, 105, 116, 32, 48, 32, 51, 32, 115, 117, 98, 109, 105, 116, 44, 50, 59, 112, 97, 110, 105, 99, 32, 49, 32, 50]
def awB24 : List BOp := [⟨2, 2, 0⟩, ⟨5, 0, 0⟩]
def awC24 : Cm := ⟨1, 0, 3, 0, 0, 0, awB24, [1, 2]⟩
theorem aw24_text : textL awB24 = [115, 117, 98, 109, 105, 116, 32, 50, 59, 112, 97, 110, 105, 99] := by
  have h3 : Lib.itoa 2 = [50] := by
    have := Lib.itoa_nonneg 2
    rw [Lib.decDigits_one (by omega)] at this
    exact this
  have h1 : toldL ⟨2, 2, 0⟩ = [115, 117, 98, 109, 105, 116, 32, 50] := by
    unfold toldL
    rw [show arOf (2 : Int) = 1 from rfl, (argsL_eq _).2.1]
    show wdOf 2 ++ 32 :: Lib.itoa 2 = _
    rw [h3]; rfl
  have h2 : toldL ⟨5, 0, 0⟩ = [112, 97, 110, 105, 99] := by
    unfold toldL
    rw [show arOf (5 : Int) = 0 from rfl, (argsL_eq _).1]; rfl
  unfold textL awB24
  rw [if_neg (by simp), List.map_cons, List.map_cons, List.map_nil, h1, h2]
  rfl
theorem aw24_parse : parseV (comma [115, 117, 98, 109, 105, 116, 44, 50, 59, 112, 97, 110, 105, 99]) = (awB24, 0) := by
  have := parse_text awB24 (by decide)
  rw [aw24_text] at this
  exact this
theorem cmdV_of {s hd : List UInt8} {tl : List (List UInt8)} (h : spl 32 s = hd :: tl) (hl : ¬ 1000 < s.length) : cmdV s = if kindOf hd = 0 then (Cm.zero 0, (3 : Int)) else match fillV (kindOf hd) 0 (Cm.zero (kindOf hd)) tl with | none => (Cm.zero 0, (3 : Int)) | some c => (c, (0 : Int)) := by
  unfold cmdV
  rw [if_neg hl, h]
  rfl
theorem cmdV_ok {s hd : List UInt8} {tl : List (List UInt8)} {k : Int} {c : Cm} (h : spl 32 s = hd :: tl) (hl : ¬ 1000 < s.length) (hk : kindOf hd = k) (h0 : k ≠ 0) (hf : fillV k 0 (Cm.zero k) tl = some c) : cmdV s = (c, 0) := by
  subst hk
  rw [cmdV_of h hl, if_neg h0, hf]
theorem aw24_cmd : cmdV awS24 = (awC24, 0) := by
  have hs : spl 32 awS24 = [[115, 117, 98, 109, 105, 116], [48], [51], [115, 117, 98, 109, 105, 116, 44, 50, 59, 112, 97, 110, 105, 99], [49], [50]] := by decide
  refine cmdV_ok hs (by decide) (k := 1) (by decide) (by decide) ?_
  rw [fillV, show placeOf 1 0 = 1 by decide, putV1, show numV [48] 4 = some 0 by decide]
  simp only [Option.map_some, Option.bind_some]
  rw [if_neg (by decide), fillV, show placeOf 1 (0 + 1) = 2 by decide, putV2, show numV [51] 4 = some 3 by decide]
  simp only [Option.map_some, Option.bind_some]
  rw [if_neg (by decide), fillV, show placeOf 1 (0 + 1 + 1) = 6 by decide, putV6, aw24_parse, if_pos ⟨rfl, by decide⟩]
  simp only [Option.bind_some]
  rw [if_neg (by decide), fillV, show placeOf 1 (0 + 1 + 1 + 1) = 7 by decide, putV7, show numV [49] 4 = some 1 by decide]
  simp only [Option.bind_some]
  rw [if_pos (by decide)]
  simp only [Option.bind_some, if_true]
  rw [fillV, show placeOf 1 (0 + 1 + 1 + 1) = 7 by decide, putV7, show numV [50] 4 = some 2 by decide]
  simp only [Option.bind_some]
  rw [if_pos (by decide)]
  simp only [Option.bind_some, if_true]
  rfl
theorem aw24_line : lineV awC24 = awS24 := (cmd_told aw24_cmd).1
theorem aw24_tv : textV awC24 = (awS24, 0) := by unfold textV; rw [aw24_line, if_pos aw24_cmd]
theorem aw24_R : CmR awC24 := ⟨by decide, by decide, by decide, by decide, by decide, by decide⟩
/-- A command of memory, for contracts. -/
theorem cmVal_of (c : Cm) (bv pv : Value) : (.agg #[.int .i64 c.k, .int .i64 c.t, .int .i64 c.p, .int .i64 c.i, .int .u64 c.n, .int .u64 c.m, bv, pv] : Value) = cmVal c bv pv := rfl

set_option maxRecDepth 20000 in
set_option maxHeartbeats 8000000 in
theorem awake24_calls (w : World) (hG : Gl w) : Calls Tryd.prog 9 #[] w fun e w' => e = .returned (.bool true) ∧ Ext NoB w w' := by
  have hp := cmParse_calls (mk awS24) w hG
  rw [show (mk awS24).data.toList = awS24 by rfl, aw24_cmd] at hp
  have hp := Lib.hid hp
  go_enter Tryd.func9, Tryd.ntmps9
  go_wp2_with fail
  refine hp.out.mono ?_
  rintro e w1 ⟨bv, pv, gb, gp, rfl, hOb, hOp, hgb, hgp, hx1⟩
  obtain ⟨Ab, cb, bb, ob, rfl, hrb, _⟩ := hOb.read
  obtain ⟨Ap, cp, bp, op, rfl, hrp, _⟩ := hOp.read
  have hx2 : Ext NoB w1 (w1.alloc (.cells #[.int .i64 awC24.k, .int .i64 awC24.t, .int .i64 awC24.p, .int .i64 awC24.i, .int .u64 awC24.n, .int .u64 awC24.m, .slice Ab awC24.body.length cb, .slice Ap awC24.preds.length cp] 29)) := (Ext.refl NoB w1).alloc _
  have hrow := alloc_at w1 (.cells #[.int .i64 awC24.k, .int .i64 awC24.t, .int .i64 awC24.p, .int .i64 awC24.i, .int .u64 awC24.n, .int .u64 awC24.m, .slice Ab awC24.body.length cb, .slice Ap awC24.preds.length cp] 29)
  have ht := cmText_calls awC24 aw24_R Ab Ap cb bb ob cp bp op _ ((hG.keep hx1).keep hx2) (hrb.keep hx2 nb1) (hrp.keep hx2 nb1)
  rw [aw24_tv] at ht
  replace ht := Lib.hid ht
  have b1 : (awC24.body.length : Int) = 2 := rfl
  have b2 : (awC24.preds.length : Int) = 2 := rfl
  have b3 : awC24.k = 1 := rfl
  have b4 : awC24.p = 3 := rfl
  have hb := Lib.hid (And.intro b1 (And.intro b2 (And.intro b3 b4)))
  clear b1 b2 b3 b4
  go_wp2_with fail
  refine ht.out.mono ?_
  rintro e w3 ⟨rfl, hx3⟩
  have hrow3 := hx3.keep hrow nb
  have l0 : w3.cell? ⟨w1.heap.size, 0, none⟩ = some (.int .i64 1) := cell_of_row w3 w1.heap.size 0 _ _ (0, 0) hrow3
  have l2 : w3.cell? ⟨w1.heap.size, 2, none⟩ = some (.int .i64 3) := cell_of_row w3 w1.heap.size 2 _ _ (0, 0) hrow3
  have l6 : w3.cell? ⟨w1.heap.size, 6, none⟩ = some (.slice Ab 2 cb) := cell_of_row w3 w1.heap.size 6 _ _ (0, 0) hrow3
  have l7 : w3.cell? ⟨w1.heap.size, 7, none⟩ = some (.slice Ap 2 cp) := cell_of_row w3 w1.heap.size 7 _ _ (0, 0) hrow3
  have hS : mk awS24 = ⟨#[115, 117, 98, 109, 105, 116, 32, 48, 32, 51, 32, 115, 117, 98, 109, 105, 116, 44, 50, 59, 112, 97, 110, 105, 99, 32, 49, 32, 50]⟩ := rfl
  rw [hS]
  go_wp2_with fail
  go_ret
  exact ⟨rfl, ((hx1.trans hx2 (fun _ _ e => e)).trans hx3 (fun _ _ e => e))⟩

end Go.Proofs.YtgiimmiandhkhaaDoor
