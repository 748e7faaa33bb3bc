/- The commands: the document's Same; what the document fixes (awake); CmdParses. Began as texts of dag's and of CmH's. -/
import Derived.Test.YtgiimmiandhkhaaGreatDoorProg
import Derived.Test.YtgiimmiandhkhaaGreatDoorCmJ
namespace Go.Proofs.YtgiimmiandhkhaaGreatDoor
open Go.RowKit
set_option linter.unusedSimpArgs false
set_option linter.unusedVariables false

theorem sameInts_calls (A B : Option Addr) (c d b o b' o' : Nat) (xs ys : List Int) (w : World) (hx : SlR w 1 intE A c b o xs) (hy : SlR w 1 intE B d b' o' ys) :
    Calls Tryz.prog 20 #[.slice A xs.length c, .slice B ys.length d] w fun e w' => e = .returned (.bool (decide (xs = ys))) ∧ Ext NoB w w' := by
  have h1 := hx.le
  have h2 := hx.max
  have h3 := hy.le
  have h4 := hy.max
  unfold maxLen at h2 h4
  by_cases hl : xs.length = ys.length
  · have hl1 : ((xs.length : Int) != ys.length) = false := by simp [hl]
    have hl' := Lib.hid hl
    clear hl
    go_enter Tryz.func20, Tryz.ntmps20
    go_wp2_with fail
    go_loopw [5] (fun i wr => ∃ k : Nat, k ≤ xs.length ∧ i = .int .i64 k ∧ Hid (xs.take k = ys.take k) ∧ Ext NoB w wr) (fun i _ => xs.length - (intOf i).toNat)
    case atStart => exact ⟨0, Nat.zero_le _, rfl, rfl, Ext.refl _ _⟩
    case round =>
      obtain ⟨k, hk, rfl, htk, hext⟩ := hrel
      by_cases hlt : k < xs.length
      · have hlt2 : k < ys.length := by rw [← hl'.out]; exact hlt
        obtain rfl := hx.addr (by omega)
        obtain rfl := hy.addr (by omega)
        have c1 := (hx.keep hext nb1).intCell k hlt
        have c2 := (hy.keep hext nb1).intCell k hlt2
        have hxk := List.take_succ_eq_append_getElem hlt
        have hyk := List.take_succ_eq_append_getElem hlt2
        have hxe : xs[k]? = some xs[k] := List.getElem?_eq_getElem hlt
        have hye : ys[k]? = some ys[k] := List.getElem?_eq_getElem hlt2
        have H1 := Lib.hid hxk
        have H2 := Lib.hid hyk
        have H3 := Lib.hid hxe
        have H4 := Lib.hid hye
        clear hxk hyk hxe hye
        generalize xs[k] = u at *
        generalize ys[k] = v at *
        by_cases huv : u = v
        · subst huv
          go_wp2_with fail
          go_quiet (fail)
          go_wp2_with fail
          go_roundw
          case rel =>
            refine ⟨k + 1, by omega, by go_num, ?_, hext.drewN _⟩
            show _ = _
            rw [H1.out, H2.out, htk.out]
          case measure => simp [intOf]; omega
        · have hf : Hid (decide (xs = ys) = false) := by
            show _ = _
            rw [decide_eq_false_iff_not]
            rintro rfl
            exact huv (Option.some.inj (H3.out.symm.trans H4.out))
          have huv' : (u != v) = true := by simp [huv]
          have huv2 : (u == v) = false := by simp [huv]
          go_wp2_with fail
          go_quiet (fail)
          go_wp2_with fail
          go_ret
          exact ⟨by rw [hf.out]; rfl, hext.drewN _⟩
      · have hf : Hid (decide (xs = ys) = true) := by
          show _ = _
          rw [decide_eq_true_iff]
          obtain rfl : k = xs.length := by omega
          have := htk.out
          rw [List.take_length, hl'.out, List.take_length] at this
          exact this
        go_wp2_with fail
        go_ret
        exact ⟨by rw [hf.out]; rfl, hext⟩
  · have hl1 : ((xs.length : Int) != ys.length) = true := by simp; omega
    have hf : Hid (decide (xs = ys) = false) := by
      show _ = _
      rw [decide_eq_false_iff_not]
      rintro rfl
      exact hl rfl
    go_enter Tryz.func20, Tryz.ntmps20
    go_wp2_with fail
    go_ret
    exact ⟨by rw [hf.out]; rfl, Ext.refl _ _⟩


set_option maxRecDepth 40000 in
set_option maxHeartbeats 16000000 in
theorem cmSameR_calls (c d : Cm) (Ab Ap : Option Addr) (cb bb ob cp bp op : Nat) (Db Dp : Option Addr) (cb2 bb2 ob2 cp2 bp2 op2 : Nat) (w : World) (hb : SlR w 3 opB Ab cb bb ob c.body) (hp : SlR w 1 intE Ap cp bp op c.preds) (hb2 : SlR w 3 opB Db cb2 bb2 ob2 d.body) (hp2 : SlR w 1 intE Dp cp2 bp2 op2 d.preds) :
    Calls Tryz.prog 7 #[cmVal c (.slice Ab c.body.length cb) (.slice Ap c.preds.length cp), cmVal d (.slice Db d.body.length cb2) (.slice Dp d.preds.length cp2)] w fun e w' => e = .returned (.bool (decide (c = d))) ∧ Ext NoB w w' := by
  have hx0 : Ext NoB w ((w.alloc (.cells #[.int .i64 c.k, .int .i64 c.t, .int .i64 c.p, .int .i64 c.i, .int .u64 c.n, .int .u64 c.m, .slice Ab c.body.length cb, .slice Ap c.preds.length cp] 26)).alloc (.cells #[.int .i64 d.k, .int .i64 d.t, .int .i64 d.p, .int .i64 d.i, .int .u64 d.n, .int .u64 d.m, .slice Db d.body.length cb2, .slice Dp d.preds.length cp2] 26)) := ((Ext.refl NoB w).alloc _).alloc _
  have hbs := Lib.hid (sameR_calls Ab cb bb ob c.body Db cb2 bb2 ob2 d.body _ (hb.keep hx0 nb1) (hb2.keep hx0 nb1))
  have hps := Lib.hid (fun w' (x : Ext NoB w w') => sameInts_calls Ap Dp cp cp2 bp op bp2 op2 c.preds d.preds w' (hp.keep x nb1) (hp2.keep x nb1))
  have f7a : ((w.alloc (.cells #[.int .i64 c.k, .int .i64 c.t, .int .i64 c.p, .int .i64 c.i, .int .u64 c.n, .int .u64 c.m, .slice Ab c.body.length cb, .slice Ap c.preds.length cp] 26)).alloc (.cells #[.int .i64 d.k, .int .i64 d.t, .int .i64 d.p, .int .i64 d.i, .int .u64 d.n, .int .u64 d.m, .slice Db d.body.length cb2, .slice Dp d.preds.length cp2] 26)).cell? ⟨w.heap.size, 7, none⟩ = some (.slice Ap c.preds.length cp) := cell_of_row _ w.heap.size 7 _ _ (0, 0) (((Ext.refl NoB _).alloc _).keep (alloc_at w _) nb)
  have f7b : ((w.alloc (.cells #[.int .i64 c.k, .int .i64 c.t, .int .i64 c.p, .int .i64 c.i, .int .u64 c.n, .int .u64 c.m, .slice Ab c.body.length cb, .slice Ap c.preds.length cp] 26)).alloc (.cells #[.int .i64 d.k, .int .i64 d.t, .int .i64 d.p, .int .i64 d.i, .int .u64 d.n, .int .u64 d.m, .slice Db d.body.length cb2, .slice Dp d.preds.length cp2] 26)).cell? ⟨w.heap.size + 1, 7, none⟩ = some (.slice Dp d.preds.length cp2) := cell_of_row _ (w.heap.size + 1) 7 _ _ (0, 0) (alloc_at' _ _ _ (by simp))
  have f7a := Lib.hid f7a
  have f7b := Lib.hid f7b
  unfold cmVal
  by_cases hk : c.k = d.k
  rotate_left
  · have hv : Hid (decide (c = d) = false) := decide_eq_false (fun e => hk (by rw [e]))
    have tk : (c.k == d.k) = false := by rw [beq_eq_false_iff_ne]; exact hk
    clear hk
    go_enter Tryz.func7, Tryz.ntmps7
    go_wp2_with fail
    go_ret
    exact ⟨by rw [hv.out]; rfl, hx0⟩
  have tk : (c.k == d.k) = true := by rw [hk]; simp
  replace hk := Lib.hid hk
  by_cases ht : c.t = d.t
  rotate_left
  · have hv : Hid (decide (c = d) = false) := decide_eq_false (fun e => ht (by rw [e]))
    have tt : (c.t == d.t) = false := by rw [beq_eq_false_iff_ne]; exact ht
    clear ht
    go_enter Tryz.func7, Tryz.ntmps7
    go_wp2_with fail
    go_ret
    exact ⟨by rw [hv.out]; rfl, hx0⟩
  have tt : (c.t == d.t) = true := by rw [ht]; simp
  replace ht := Lib.hid ht
  by_cases hpq : c.p = d.p
  rotate_left
  · have hv : Hid (decide (c = d) = false) := decide_eq_false (fun e => hpq (by rw [e]))
    have tp : (c.p == d.p) = false := by rw [beq_eq_false_iff_ne]; exact hpq
    clear hpq
    go_enter Tryz.func7, Tryz.ntmps7
    go_wp2_with fail
    go_ret
    exact ⟨by rw [hv.out]; rfl, hx0⟩
  have tp : (c.p == d.p) = true := by rw [hpq]; simp
  replace hpq := Lib.hid hpq
  by_cases hi : c.i = d.i
  rotate_left
  · have hv : Hid (decide (c = d) = false) := decide_eq_false (fun e => hi (by rw [e]))
    have ti : (c.i == d.i) = false := by rw [beq_eq_false_iff_ne]; exact hi
    clear hi
    go_enter Tryz.func7, Tryz.ntmps7
    go_wp2_with fail
    go_ret
    exact ⟨by rw [hv.out]; rfl, hx0⟩
  have ti : (c.i == d.i) = true := by rw [hi]; simp
  replace hi := Lib.hid hi
  by_cases hn : c.n = d.n
  rotate_left
  · have hv : Hid (decide (c = d) = false) := decide_eq_false (fun e => hn (by rw [e]))
    have tn : (c.n == d.n) = false := by rw [beq_eq_false_iff_ne]; exact hn
    clear hn
    go_enter Tryz.func7, Tryz.ntmps7
    go_wp2_with fail
    go_ret
    exact ⟨by rw [hv.out]; rfl, hx0⟩
  have tn : (c.n == d.n) = true := by rw [hn]; simp
  replace hn := Lib.hid hn
  by_cases hm : c.m = d.m
  rotate_left
  · have hv : Hid (decide (c = d) = false) := decide_eq_false (fun e => hm (by rw [e]))
    have tm : (c.m == d.m) = false := by rw [beq_eq_false_iff_ne]; exact hm
    clear hm
    go_enter Tryz.func7, Tryz.ntmps7
    go_wp2_with fail
    go_ret
    exact ⟨by rw [hv.out]; rfl, hx0⟩
  have tm : (c.m == d.m) = true := by rw [hm]; simp
  replace hm := Lib.hid hm
  generalize hq : decide (c.body = d.body) = q at *
  have hq := Lib.hid hq
  cases q with
  | false =>
    have hv : Hid (decide (c = d) = false) := decide_eq_false (fun e => by have := of_decide_eq_false hq.out; exact this (by rw [e]))
    go_enter Tryz.func7, Tryz.ntmps7
    go_wp2_with (go_at_call 19; refine hbs.out.mono ?_; rintro e w1 ⟨rfl, hx1⟩)
    go_ret
    exact ⟨by rw [hv.out]; rfl, hx0.trans hx1 (fun _ _ e => e)⟩
  | true =>
    have hv : Hid (decide (c = d) = decide (c.preds = d.preds)) := by
      show _ = _
      have hbd := of_decide_eq_true hq.out
      rw [Bool.eq_iff_iff, decide_eq_true_iff, decide_eq_true_iff]
      refine ⟨fun e => by rw [e], fun e => ?_⟩
      obtain ⟨k1, t1, p1, i1, n1, m1, l1, r1⟩ := c
      obtain ⟨k2, t2, p2, i2, n2, m2, l2, r2⟩ := d
      obtain rfl := hk.out
      obtain rfl := ht.out
      obtain rfl := hpq.out
      obtain rfl := hi.out
      obtain rfl := hn.out
      obtain rfl := hm.out
      obtain rfl := hbd
      obtain rfl := e
      rfl
    go_enter Tryz.func7, Tryz.ntmps7
    go_wp2_with (first
      | (go_at_call 19; refine hbs.out.mono ?_; rintro e w1 ⟨rfl, hx1⟩; have g7a := hx1.cell f7a.out nb; have g7b := hx1.cell f7b.out nb)
      | (go_at_call 20; refine (hps.out w1 (hx0.trans hx1 (fun _ _ e => e))).mono ?_; rintro e w2 ⟨rfl, hx2⟩))
    go_ret
    exact ⟨by rw [hv.out]; rfl, (hx0.trans hx1 (fun _ _ e => e)).trans hx2 (fun _ _ e => e)⟩


/-! ### awake -/
def awS24 : List UInt8 := [115, 117, 98, 109, 105, 116, 32, 48, 32, 51, 32, 115, 117, 98, 109, 105, 116, 44, 50, 59, 112, 97, 110, 105, 99, 32, 49, 32, 50]
def awB24 : List BOp := [⟨2, 2, 0⟩, ⟨5, 0, 0⟩]
def awC24 : Cm := ⟨1, 0, 3, 0, 0, 0, awB24, [1, 2]⟩
theorem aw24_text : textL awB24 = [115, 117, 98, 109, 105, 116, 32, 50, 59, 112, 97, 110, 105, 99] := by
  have h3 : Lib.itoa 2 = [50] := by
    have := Lib.itoa_nonneg 2
    rw [Lib.decDigits_one (by omega)] at this
    exact this
  have h1 : toldL ⟨2, 2, 0⟩ = [115, 117, 98, 109, 105, 116, 32, 50] := by
    unfold toldL
    rw [show arOf (2 : Int) = 1 from rfl, (argsL_eq _).2.1]
    show wdOf 2 ++ 32 :: Lib.itoa 2 = _
    rw [h3]; rfl
  have h2 : toldL ⟨5, 0, 0⟩ = [112, 97, 110, 105, 99] := by
    unfold toldL
    rw [show arOf (5 : Int) = 0 from rfl, (argsL_eq _).1]; rfl
  unfold textL awB24
  rw [if_neg (by simp), List.map_cons, List.map_cons, List.map_nil, h1, h2]
  rfl
theorem aw24_parse : parseV (comma [115, 117, 98, 109, 105, 116, 44, 50, 59, 112, 97, 110, 105, 99]) = (awB24, 0) := by
  have := parse_text awB24 (by decide)
  rw [aw24_text] at this
  exact this
theorem cmdV_of {s hd : List UInt8} {tl : List (List UInt8)} (h : spl 32 s = hd :: tl) (hl : ¬ 1000 < s.length) : cmdV s = if kindOf hd = 0 then (Cm.zero 0, (3 : Int)) else match fillV (kindOf hd) 0 (Cm.zero (kindOf hd)) tl with | none => (Cm.zero 0, (3 : Int)) | some c => (c, (0 : Int)) := by
  unfold cmdV
  rw [if_neg hl, h]
  rfl
theorem cmdV_ok {s hd : List UInt8} {tl : List (List UInt8)} {k : Int} {c : Cm} (h : spl 32 s = hd :: tl) (hl : ¬ 1000 < s.length) (hk : kindOf hd = k) (h0 : k ≠ 0) (hf : fillV k 0 (Cm.zero k) tl = some c) : cmdV s = (c, 0) := by
  subst hk
  rw [cmdV_of h hl, if_neg h0, hf]
theorem aw24_cmd : cmdV awS24 = (awC24, 0) := by
  have hs : spl 32 awS24 = [[115, 117, 98, 109, 105, 116], [48], [51], [115, 117, 98, 109, 105, 116, 44, 50, 59, 112, 97, 110, 105, 99], [49], [50]] := by decide
  refine cmdV_ok hs (by decide) (k := 1) (by decide) (by decide) ?_
  rw [fillV, show placeOf 1 0 = 1 by decide, putV1, show numV [48] 4 = some 0 by decide]
  simp only [Option.map_some, Option.bind_some]
  rw [if_neg (by decide), fillV, show placeOf 1 (0 + 1) = 2 by decide, putV2, show numV [51] 4 = some 3 by decide]
  simp only [Option.map_some, Option.bind_some]
  rw [if_neg (by decide), fillV, show placeOf 1 (0 + 1 + 1) = 6 by decide, putV6, aw24_parse, if_pos ⟨rfl, by decide⟩]
  simp only [Option.bind_some]
  rw [if_neg (by decide), fillV, show placeOf 1 (0 + 1 + 1 + 1) = 7 by decide, putV7, show numV [49] 4 = some 1 by decide]
  simp only [Option.bind_some]
  rw [if_pos (by decide)]
  simp only [Option.bind_some, if_true]
  rw [fillV, show placeOf 1 (0 + 1 + 1 + 1) = 7 by decide, putV7, show numV [50] 4 = some 2 by decide]
  simp only [Option.bind_some]
  rw [if_pos (by decide)]
  simp only [Option.bind_some, if_true]
  rfl
theorem aw24_line : lineV awC24 = awS24 := (cmd_told aw24_cmd).1
theorem aw24_tv : textV awC24 = (awS24, 0) := by unfold textV; rw [aw24_line, if_pos aw24_cmd]
theorem aw24_R : CmR awC24 := ⟨by decide, by decide, by decide, by decide, by decide, by decide⟩
/-- A command of memory, for contracts. -/
theorem cmVal_of (c : Cm) (bv pv : Value) : (.agg #[.int .i64 c.k, .int .i64 c.t, .int .i64 c.p, .int .i64 c.i, .int .u64 c.n, .int .u64 c.m, bv, pv] : Value) = cmVal c bv pv := rfl

set_option maxRecDepth 20000 in
set_option maxHeartbeats 8000000 in
theorem awake24_calls (w : World) (hG : Gl w) : Calls Tryz.prog 8 #[] w fun e w' => e = .returned (.bool true) ∧ Ext NoB w w' := by
  have hp := cmParse_calls (mk awS24) w hG
  rw [show (mk awS24).data.toList = awS24 by rfl, aw24_cmd] at hp
  have hp := Lib.hid hp
  go_enter Tryz.func8, Tryz.ntmps8
  go_wp2_with fail
  refine hp.out.mono ?_
  rintro e w1 ⟨bv, pv, gb, gp, rfl, hOb, hOp, hgb, hgp, hx1⟩
  obtain ⟨Ab, cb, bb, ob, rfl, hrb, _⟩ := hOb.read
  obtain ⟨Ap, cp, bp, op, rfl, hrp, _⟩ := hOp.read
  have hx2 : Ext NoB w1 (w1.alloc (.cells #[.int .i64 awC24.k, .int .i64 awC24.t, .int .i64 awC24.p, .int .i64 awC24.i, .int .u64 awC24.n, .int .u64 awC24.m, .slice Ab awC24.body.length cb, .slice Ap awC24.preds.length cp] 26)) := (Ext.refl NoB w1).alloc _
  have hrow := alloc_at w1 (.cells #[.int .i64 awC24.k, .int .i64 awC24.t, .int .i64 awC24.p, .int .i64 awC24.i, .int .u64 awC24.n, .int .u64 awC24.m, .slice Ab awC24.body.length cb, .slice Ap awC24.preds.length cp] 26)
  have ht := cmText_calls awC24 aw24_R Ab Ap cb bb ob cp bp op _ ((hG.keep hx1).keep hx2) (hrb.keep hx2 nb1) (hrp.keep hx2 nb1)
  rw [aw24_tv] at ht
  replace ht := Lib.hid ht
  have b1 : (awC24.body.length : Int) = 2 := rfl
  have b2 : (awC24.preds.length : Int) = 2 := rfl
  have b3 : awC24.k = 1 := rfl
  have b4 : awC24.p = 3 := rfl
  have hb := Lib.hid (And.intro b1 (And.intro b2 (And.intro b3 b4)))
  clear b1 b2 b3 b4
  go_wp2_with fail
  refine ht.out.mono ?_
  rintro e w3 ⟨rfl, hx3⟩
  have hrow3 := hx3.keep hrow nb
  have l0 : w3.cell? ⟨w1.heap.size, 0, none⟩ = some (.int .i64 1) := cell_of_row w3 w1.heap.size 0 _ _ (0, 0) hrow3
  have l2 : w3.cell? ⟨w1.heap.size, 2, none⟩ = some (.int .i64 3) := cell_of_row w3 w1.heap.size 2 _ _ (0, 0) hrow3
  have l6 : w3.cell? ⟨w1.heap.size, 6, none⟩ = some (.slice Ab 2 cb) := cell_of_row w3 w1.heap.size 6 _ _ (0, 0) hrow3
  have l7 : w3.cell? ⟨w1.heap.size, 7, none⟩ = some (.slice Ap 2 cp) := cell_of_row w3 w1.heap.size 7 _ _ (0, 0) hrow3
  have hS : mk awS24 = ⟨#[115, 117, 98, 109, 105, 116, 32, 48, 32, 51, 32, 115, 117, 98, 109, 105, 116, 44, 50, 59, 112, 97, 110, 105, 99, 32, 49, 32, 50]⟩ := rfl
  rw [hS]
  go_wp2_with fail
  go_ret
  exact ⟨rfl, ((hx1.trans hx2 (fun _ _ e => e)).trans hx3 (fun _ _ e => e))⟩

set_option maxRecDepth 20000 in
set_option maxHeartbeats 8000000 in
theorem cparses_calls (s : ByteArray) (w : World) (hG : Gl w) : Calls Tryz.prog 3 #[.string s] w fun e w' => e = .returned (.bool true) ∧ Ext NoB w w' := by
  have hpr := cmParseR_calls s
  rw [refV_eq] at hpr
  have hpr := Lib.hid hpr
  go_enter Tryz.func3, Tryz.ntmps3
  go_wp2_with fail
  refine (cmParse_calls s w hG).mono ?_
  rintro e w1 ⟨bv, pv, gb, gp, rfl, hOb, hOp, hgb, hgp, hx1⟩
  obtain ⟨Ab, cb, bb, ob, rfl, hrb, _⟩ := hOb.read
  obtain ⟨Ap, cp, bp, op, rfl, hrp, _⟩ := hOp.read
  generalize (cmdV s.data.toList).2 = er at *
  generalize (cmdV s.data.toList).1 = c at *
  have hxa : Ext NoB w1 (w1.alloc (.cells #[.int .i64 c.k, .int .i64 c.t, .int .i64 c.p, .int .i64 c.i, .int .u64 c.n, .int .u64 c.m, .slice Ab c.body.length cb, .slice Ap c.preds.length cp] 26)) := (Ext.refl NoB w1).alloc _
  have hra := alloc_at w1 (.cells #[.int .i64 c.k, .int .i64 c.t, .int .i64 c.p, .int .i64 c.i, .int .u64 c.n, .int .u64 c.m, .slice Ab c.body.length cb, .slice Ap c.preds.length cp] 26)
  go_wp2_with fail
  generalize w1.alloc (.cells #[.int .i64 c.k, .int .i64 c.t, .int .i64 c.p, .int .i64 c.i, .int .u64 c.n, .int .u64 c.m, .slice Ab c.body.length cb, .slice Ap c.preds.length cp] 26) = wa at *
  generalize w1.heap.size = b1 at *
  refine (hpr.out wa).mono ?_
  rintro e w2 ⟨bv2, pv2, gb2, gp2, rfl, hOb2, hOp2, hgb2, hgp2, hx2⟩
  obtain ⟨Db, cb2, bb2, ob2, rfl, hrb2, _⟩ := hOb2.read
  obtain ⟨Dp, cp2, bp2, op2, rfl, hrp2, _⟩ := hOp2.read
  have hra2 := hx2.keep hra nb
  have hxd : Ext NoB w2 (w2.alloc (.cells #[.int .i64 c.k, .int .i64 c.t, .int .i64 c.p, .int .i64 c.i, .int .u64 c.n, .int .u64 c.m, .slice Db c.body.length cb2, .slice Dp c.preds.length cp2] 26)) := (Ext.refl NoB w2).alloc _
  have hra3 := hxd.keep hra2 nb
  have hx12 := (hxa.trans hx2 (fun _ _ e => e)).trans hxd (fun _ _ e => e)
  have l0 : (w2.alloc (.cells #[.int .i64 c.k, .int .i64 c.t, .int .i64 c.p, .int .i64 c.i, .int .u64 c.n, .int .u64 c.m, .slice Db c.body.length cb2, .slice Dp c.preds.length cp2] 26)).cell? ⟨b1, 0, none⟩ = some (.int .i64 c.k) := cell_of_row _ b1 0 _ _ (0, 0) hra3
  have l1 : (w2.alloc (.cells #[.int .i64 c.k, .int .i64 c.t, .int .i64 c.p, .int .i64 c.i, .int .u64 c.n, .int .u64 c.m, .slice Db c.body.length cb2, .slice Dp c.preds.length cp2] 26)).cell? ⟨b1, 1, none⟩ = some (.int .i64 c.t) := cell_of_row _ b1 1 _ _ (0, 0) hra3
  have l2 : (w2.alloc (.cells #[.int .i64 c.k, .int .i64 c.t, .int .i64 c.p, .int .i64 c.i, .int .u64 c.n, .int .u64 c.m, .slice Db c.body.length cb2, .slice Dp c.preds.length cp2] 26)).cell? ⟨b1, 2, none⟩ = some (.int .i64 c.p) := cell_of_row _ b1 2 _ _ (0, 0) hra3
  have l3 : (w2.alloc (.cells #[.int .i64 c.k, .int .i64 c.t, .int .i64 c.p, .int .i64 c.i, .int .u64 c.n, .int .u64 c.m, .slice Db c.body.length cb2, .slice Dp c.preds.length cp2] 26)).cell? ⟨b1, 3, none⟩ = some (.int .i64 c.i) := cell_of_row _ b1 3 _ _ (0, 0) hra3
  have l4 : (w2.alloc (.cells #[.int .i64 c.k, .int .i64 c.t, .int .i64 c.p, .int .i64 c.i, .int .u64 c.n, .int .u64 c.m, .slice Db c.body.length cb2, .slice Dp c.preds.length cp2] 26)).cell? ⟨b1, 4, none⟩ = some (.int .u64 c.n) := cell_of_row _ b1 4 _ _ (0, 0) hra3
  have l5 : (w2.alloc (.cells #[.int .i64 c.k, .int .i64 c.t, .int .i64 c.p, .int .i64 c.i, .int .u64 c.n, .int .u64 c.m, .slice Db c.body.length cb2, .slice Dp c.preds.length cp2] 26)).cell? ⟨b1, 5, none⟩ = some (.int .u64 c.m) := cell_of_row _ b1 5 _ _ (0, 0) hra3
  have l6 : (w2.alloc (.cells #[.int .i64 c.k, .int .i64 c.t, .int .i64 c.p, .int .i64 c.i, .int .u64 c.n, .int .u64 c.m, .slice Db c.body.length cb2, .slice Dp c.preds.length cp2] 26)).cell? ⟨b1, 6, none⟩ = some (.slice Ab c.body.length cb) := cell_of_row _ b1 6 _ _ (0, 0) hra3
  have l7 : (w2.alloc (.cells #[.int .i64 c.k, .int .i64 c.t, .int .i64 c.p, .int .i64 c.i, .int .u64 c.n, .int .u64 c.m, .slice Db c.body.length cb2, .slice Dp c.preds.length cp2] 26)).cell? ⟨b1, 7, none⟩ = some (.slice Ap c.preds.length cp) := cell_of_row _ b1 7 _ _ (0, 0) hra3
  have hsm := cmSameR_calls c c Ab Ap cb bb ob cp bp op Db Dp cb2 bb2 ob2 cp2 bp2 op2 _ (hrb.keep hx12 nb1) (hrp.keep hx12 nb1) (hrb2.keep hxd nb1) (hrp2.keep hxd nb1)
  unfold cmVal at hsm
  have hdd : decide (c = c) = true := by simp
  rw [hdd] at hsm
  replace hsm := Lib.hid hsm
  have ee : (er == er) = true := by simp
  go_wp2_with (first
    | (go_at_call 7; refine hsm.out.mono ?_; rintro e w4 ⟨rfl, hx4⟩; have hx04 := ((hx1.trans hx12 (fun _ _ e => e)).trans hx4 (fun _ _ e => e)))
    | (go_at_call 8; refine (awake24_calls w4 (hG.keep hx04)).mono ?_; rintro e w5 ⟨rfl, hx5⟩))
  go_ret
  exact ⟨rfl, hx04.trans hx5 (fun _ _ e => e)⟩
end Go.Proofs.YtgiimmiandhkhaaGreatDoor
