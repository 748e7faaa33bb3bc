/- The commands: two are the same; a command's text. Printed by gen-cmh.py. -/
import Derived.Test.YtgiimmiandhkhaaDoorProg
import Derived.Test.YtgiimmiandhkhaaDoorCmG
namespace Go.Proofs.YtgiimmiandhkhaaDoor
open Go.RowKit
set_option linter.unusedSimpArgs false
set_option linter.unusedVariables false

theorem eqI_calls (A1 : Option Addr) (c1 b1 o1 : Nat) (xs : List Int) (A2 : Option Addr) (c2 b2 o2 : Nat) (ys : List Int) (w : World) (h1 : SlR w 1 intE A1 c1 b1 o1 xs) (h2 : SlR w 1 intE A2 c2 b2 o2 ys) :
    Calls Tryd.prog 26 #[.slice A1 xs.length c1, .slice A2 ys.length c2] w fun e w' => e = .returned (.bool (decide (xs = ys))) ∧ Ext NoB w w' := by
  have m1 := h1.max
  have m2 := h2.max
  have l1 := h1.le
  have l2 := h2.le
  unfold maxLen at m1 m2
  have e1 : ∀ {w : World} {A : Option Addr} {c b o : Nat} {xs : List Int}, SlR w 1 intE A c b o xs → ∀ j, j < xs.length → w.cell? ⟨b, o + j, none⟩ = some (.int .i64 (xs.getD j 0)) := by
    intro w A c b o xs h j hj
    have := h.intCell j hj
    rw [this]
    simp [List.getD_eq_getElem?_getD, hj]
  by_cases hx : xs.length = 0
  · obtain rfl := List.eq_nil_of_length_eq_zero hx
    refine (Tryd.slices_Equal_int_empty A1 A2 c1 ys.length c2 w (by omega)).mono ?_
    rintro e w' ⟨rfl, rfl⟩
    refine ⟨?_, Ext.refl _ _⟩
    congr 2
    cases ys <;> simp
  · by_cases hy : xs.length = ys.length
    · obtain rfl := h1.addr (by omega)
      obtain rfl := h2.addr (by omega)
      refine (Tryd.slices_Equal_int b1 o1 xs.length c1 b2 o2 ys.length c2 xs ys w (Nat.le_refl _) (Nat.le_refl _) (by omega) (by omega) (e1 h1) (e1 h2)).mono ?_
      rintro e w' ⟨rfl, q, rfl⟩
      refine ⟨?_, (Ext.refl _ _).drewN q⟩
      rw [List.take_length, List.take_length]
      congr 2
      rw [Bool.eq_iff_iff]; simp
    · refine (Tryd.slices_Equal_int_lens A1 A2 xs.length c1 ys.length c2 w hy).mono ?_
      rintro e w' ⟨rfl, rfl⟩
      refine ⟨?_, Ext.refl _ _⟩
      congr 2
      symm
      rw [decide_eq_false_iff_not]
      exact fun e => hy (by rw [e])

set_option maxRecDepth 40000 in
set_option maxHeartbeats 16000000 in
theorem cmSame_calls (c d : Cm) (Ab Ap : Option Addr) (cb bb ob cp bp op : Nat) (Db Dp : Option Addr) (cb2 bb2 ob2 cp2 bp2 op2 : Nat) (w : World) (hb : SlR w 3 opB Ab cb bb ob c.body) (hp : SlR w 1 intE Ap cp bp op c.preds) (hb2 : SlR w 3 opB Db cb2 bb2 ob2 d.body) (hp2 : SlR w 1 intE Dp cp2 bp2 op2 d.preds) :
    Calls Tryd.prog 18 #[cmVal c (.slice Ab c.body.length cb) (.slice Ap c.preds.length cp), cmVal d (.slice Db d.body.length cb2) (.slice Dp d.preds.length cp2)] w fun e w' => e = .returned (.bool (decide (c = d))) ∧ Ext NoB w w' := by
  have hx0 : Ext NoB w ((w.alloc (.cells #[.int .i64 c.k, .int .i64 c.t, .int .i64 c.p, .int .i64 c.i, .int .u64 c.n, .int .u64 c.m, .slice Ab c.body.length cb, .slice Ap c.preds.length cp] 29)).alloc (.cells #[.int .i64 d.k, .int .i64 d.t, .int .i64 d.p, .int .i64 d.i, .int .u64 d.n, .int .u64 d.m, .slice Db d.body.length cb2, .slice Dp d.preds.length cp2] 29)) := ((Ext.refl NoB w).alloc _).alloc _
  have hbs := Lib.hid (same_calls Ab cb bb ob c.body Db cb2 bb2 ob2 d.body _ (hb.keep hx0 nb1) (hb2.keep hx0 nb1))
  have hps := Lib.hid (fun w' (x : Ext NoB w w') => eqI_calls Ap cp bp op c.preds Dp cp2 bp2 op2 d.preds w' (hp.keep x nb1) (hp2.keep x nb1))
  have f7a : ((w.alloc (.cells #[.int .i64 c.k, .int .i64 c.t, .int .i64 c.p, .int .i64 c.i, .int .u64 c.n, .int .u64 c.m, .slice Ab c.body.length cb, .slice Ap c.preds.length cp] 29)).alloc (.cells #[.int .i64 d.k, .int .i64 d.t, .int .i64 d.p, .int .i64 d.i, .int .u64 d.n, .int .u64 d.m, .slice Db d.body.length cb2, .slice Dp d.preds.length cp2] 29)).cell? ⟨w.heap.size, 7, none⟩ = some (.slice Ap c.preds.length cp) := cell_of_row _ w.heap.size 7 _ _ (0, 0) (((Ext.refl NoB _).alloc _).keep (alloc_at w _) nb)
  have f7b : ((w.alloc (.cells #[.int .i64 c.k, .int .i64 c.t, .int .i64 c.p, .int .i64 c.i, .int .u64 c.n, .int .u64 c.m, .slice Ab c.body.length cb, .slice Ap c.preds.length cp] 29)).alloc (.cells #[.int .i64 d.k, .int .i64 d.t, .int .i64 d.p, .int .i64 d.i, .int .u64 d.n, .int .u64 d.m, .slice Db d.body.length cb2, .slice Dp d.preds.length cp2] 29)).cell? ⟨w.heap.size + 1, 7, none⟩ = some (.slice Dp d.preds.length cp2) := cell_of_row _ (w.heap.size + 1) 7 _ _ (0, 0) (alloc_at' _ _ _ (by simp))
  have f7a := Lib.hid f7a
  have f7b := Lib.hid f7b
  unfold cmVal
  by_cases hk : c.k = d.k
  rotate_left
  · have hv : Hid (decide (c = d) = false) := decide_eq_false (fun e => hk (by rw [e]))
    have tk : (c.k == d.k) = false := by rw [beq_eq_false_iff_ne]; exact hk
    clear hk
    go_enter Tryd.func18, Tryd.ntmps18
    go_wp2_with fail
    go_ret
    exact ⟨by rw [hv.out]; rfl, hx0⟩
  have tk : (c.k == d.k) = true := by rw [hk]; simp
  replace hk := Lib.hid hk
  by_cases ht : c.t = d.t
  rotate_left
  · have hv : Hid (decide (c = d) = false) := decide_eq_false (fun e => ht (by rw [e]))
    have tt : (c.t == d.t) = false := by rw [beq_eq_false_iff_ne]; exact ht
    clear ht
    go_enter Tryd.func18, Tryd.ntmps18
    go_wp2_with fail
    go_ret
    exact ⟨by rw [hv.out]; rfl, hx0⟩
  have tt : (c.t == d.t) = true := by rw [ht]; simp
  replace ht := Lib.hid ht
  by_cases hpq : c.p = d.p
  rotate_left
  · have hv : Hid (decide (c = d) = false) := decide_eq_false (fun e => hpq (by rw [e]))
    have tp : (c.p == d.p) = false := by rw [beq_eq_false_iff_ne]; exact hpq
    clear hpq
    go_enter Tryd.func18, Tryd.ntmps18
    go_wp2_with fail
    go_ret
    exact ⟨by rw [hv.out]; rfl, hx0⟩
  have tp : (c.p == d.p) = true := by rw [hpq]; simp
  replace hpq := Lib.hid hpq
  by_cases hi : c.i = d.i
  rotate_left
  · have hv : Hid (decide (c = d) = false) := decide_eq_false (fun e => hi (by rw [e]))
    have ti : (c.i == d.i) = false := by rw [beq_eq_false_iff_ne]; exact hi
    clear hi
    go_enter Tryd.func18, Tryd.ntmps18
    go_wp2_with fail
    go_ret
    exact ⟨by rw [hv.out]; rfl, hx0⟩
  have ti : (c.i == d.i) = true := by rw [hi]; simp
  replace hi := Lib.hid hi
  by_cases hn : c.n = d.n
  rotate_left
  · have hv : Hid (decide (c = d) = false) := decide_eq_false (fun e => hn (by rw [e]))
    have tn : (c.n == d.n) = false := by rw [beq_eq_false_iff_ne]; exact hn
    clear hn
    go_enter Tryd.func18, Tryd.ntmps18
    go_wp2_with fail
    go_ret
    exact ⟨by rw [hv.out]; rfl, hx0⟩
  have tn : (c.n == d.n) = true := by rw [hn]; simp
  replace hn := Lib.hid hn
  by_cases hm : c.m = d.m
  rotate_left
  · have hv : Hid (decide (c = d) = false) := decide_eq_false (fun e => hm (by rw [e]))
    have tm : (c.m == d.m) = false := by rw [beq_eq_false_iff_ne]; exact hm
    clear hm
    go_enter Tryd.func18, Tryd.ntmps18
    go_wp2_with fail
    go_ret
    exact ⟨by rw [hv.out]; rfl, hx0⟩
  have tm : (c.m == d.m) = true := by rw [hm]; simp
  replace hm := Lib.hid hm
  generalize hq : decide (c.body = d.body) = q at *
  have hq := Lib.hid hq
  cases q with
  | false =>
    have hv : Hid (decide (c = d) = false) := decide_eq_false (fun e => by have := of_decide_eq_false hq.out; exact this (by rw [e]))
    go_enter Tryd.func18, Tryd.ntmps18
    go_wp2_with (go_at_call 25; refine hbs.out.mono ?_; rintro e w1 ⟨rfl, hx1⟩)
    go_ret
    exact ⟨by rw [hv.out]; rfl, hx0.trans hx1 (fun _ _ e => e)⟩
  | true =>
    have hv : Hid (decide (c = d) = decide (c.preds = d.preds)) := by
      show _ = _
      have hbd := of_decide_eq_true hq.out
      rw [Bool.eq_iff_iff, decide_eq_true_iff, decide_eq_true_iff]
      refine ⟨fun e => by rw [e], fun e => ?_⟩
      obtain ⟨k1, t1, p1, i1, n1, m1, l1, r1⟩ := c
      obtain ⟨k2, t2, p2, i2, n2, m2, l2, r2⟩ := d
      obtain rfl := hk.out
      obtain rfl := ht.out
      obtain rfl := hpq.out
      obtain rfl := hi.out
      obtain rfl := hn.out
      obtain rfl := hm.out
      obtain rfl := hbd
      obtain rfl := e
      rfl
    go_enter Tryd.func18, Tryd.ntmps18
    go_wp2_with (first
      | (go_at_call 25; refine hbs.out.mono ?_; rintro e w1 ⟨rfl, hx1⟩; have g7a := hx1.cell f7a.out nb; have g7b := hx1.cell f7b.out nb)
      | (go_at_call 26; refine (hps.out w1 (hx0.trans hx1 (fun _ _ e => e))).mono ?_; rintro e w2 ⟨rfl, hx2⟩))
    go_ret
    exact ⟨by rw [hv.out]; rfl, (hx0.trans hx1 (fun _ _ e => e)).trans hx2 (fun _ _ e => e)⟩

/-- A command's text, and the number of the error. -/
def textV (c : Cm) : List UInt8 × Int := if cmdV (lineV c) = (c, 0) then (lineV c, 0) else ([], 1)

set_option maxRecDepth 40000 in
set_option maxHeartbeats 16000000 in
theorem cmText_calls (c : Cm) (hR : CmR c) (Ab Ap : Option Addr) (cb bb ob cp bp op : Nat) (w : World) (hG : Gl w) (hb : SlR w 3 opB Ab cb bb ob c.body) (hp : SlR w 1 intE Ap cp bp op c.preds) :
    Calls Tryd.prog 8 #[cmVal c (.slice Ab c.body.length cb) (.slice Ap c.preds.length cp)] w fun e w' => e = .returned (.tuple #[.string (mk (textV c).1), .int .i64 (textV c).2]) ∧ Ext NoB w w' := by
  have hrow := alloc_at w (.cells #[.int .i64 c.k, .int .i64 c.t, .int .i64 c.p, .int .i64 c.i, .int .u64 c.n, .int .u64 c.m, .slice Ab c.body.length cb, .slice Ap c.preds.length cp] 29)
  have hx0 : Ext NoB w (w.alloc (.cells #[.int .i64 c.k, .int .i64 c.t, .int .i64 c.p, .int .i64 c.i, .int .u64 c.n, .int .u64 c.m, .slice Ab c.body.length cb, .slice Ap c.preds.length cp] 29)) := (Ext.refl NoB w).alloc _
  have hcv : cmVal c (.slice Ab c.body.length cb) (.slice Ap c.preds.length cp) = .agg #[.int .i64 c.k, .int .i64 c.t, .int .i64 c.p, .int .i64 c.i, .int .u64 c.n, .int .u64 c.m, .slice Ab c.body.length cb, .slice Ap c.preds.length cp] := rfl
  rw [hcv]
  have hcv := Lib.hid hcv
  generalize hT : textV c = T at *
  have hT := Lib.hid hT
  by_cases h1 : c.k < 1
  · have hv : Hid (T = ([], 1)) := by show _ = _; rw [← hT.out]; unfold textV; rw [if_neg (fun e => by have := (cmd_told e).2.1; omega)]
    have t1 : decide (c.k < 1) = true := by simp [h1]
    go_enter Tryd.func8, Tryd.ntmps8
    go_wp2_with fail
    go_ret2
    exact ⟨by rw [hv.out]; rfl, hx0⟩
  by_cases h14 : 14 < c.k
  · have hv : Hid (T = ([], 1)) := by show _ = _; rw [← hT.out]; unfold textV; rw [if_neg (fun e => by have := (cmd_told e).2.1; omega)]
    have t1 : decide (c.k < 1) = false := by simp; omega
    have t2 : decide (14 < c.k) = true := by simp [h14]
    go_enter Tryd.func8, Tryd.ntmps8
    go_wp2_with fail
    go_ret2
    exact ⟨by rw [hv.out]; rfl, hx0⟩
  have t1 : decide (c.k < 1) = false := by simp; omega
  have t2 : decide (14 < c.k) = false := by simp; omega
  have hlc := line_calls c ⟨by omega, by omega⟩ hR Ab Ap cb bb ob cp bp op _ (hG.keep hx0) (hb.keep hx0 nb1) (hp.keep hx0 nb1)
  rw [hcv.out] at hlc
  have hlc := Lib.hid hlc
  have hld : (mk (lineV c)).data.toList = lineV c := by simp [mk]
  have hpc := Lib.hid (fun w' hG => cmParse_calls (mk (lineV c)) w' hG)
  rw [hld] at hpc
  have hTT : Hid (T = if cmdV (lineV c) = (c, 0) then (lineV c, 0) else ([], 1)) := by show _ = _; rw [← hT.out]; rfl
  have hb' := Lib.hid hb
  have hp' := Lib.hid hp
  have hGw := Lib.hid hG
  clear hld hT hb hp hG
  go_enter Tryd.func8, Tryd.ntmps8
  go_wp2_with fail
  refine hlc.out.mono ?_
  rintro e w1 ⟨rfl, hx1⟩
  have hx01 := hx0.trans hx1 (fun _ _ e => e)
  have hrow1 := hx1.keep hrow nb
  generalize hS : mk (lineV c) = S at *
  have hS := Lib.hid hS
  generalize hlv : lineV c = lv at *
  have hlv := Lib.hid hlv
  generalize w.heap.size = bx at *
  go_wp2_with fail
  refine (hpc.out w1 (hGw.out.keep hx01)).mono ?_
  rintro e w2 ⟨bv, pv, gb, gp, rfl, hOb, hOp, hgb, hgp, hx2⟩
  obtain ⟨Db, cb2, bb2, ob2, rfl, hrb, _⟩ := hOb.read
  obtain ⟨Dp, cp2, bp2, op2, rfl, hrp, _⟩ := hOp.read
  have hx02 := hx01.trans hx2 (fun _ _ e => e)
  have hrow2 := hx2.keep hrow1 nb
  generalize hcd : cmdV lv = R at *
  obtain ⟨d, er⟩ := R
  have hcd := Lib.hid hcd
  dsimp only at *
  have hxd : Ext NoB w2 (w2.alloc (.cells #[.int .i64 d.k, .int .i64 d.t, .int .i64 d.p, .int .i64 d.i, .int .u64 d.n, .int .u64 d.m, .slice Db d.body.length cb2, .slice Dp d.preds.length cp2] 29)) := (Ext.refl NoB w2).alloc _
  have hrowd := alloc_at w2 (.cells #[.int .i64 d.k, .int .i64 d.t, .int .i64 d.p, .int .i64 d.i, .int .u64 d.n, .int .u64 d.m, .slice Db d.body.length cb2, .slice Dp d.preds.length cp2] 29)
  have hrow3 := hxd.keep hrow2 nb
  have l0 : (w2.alloc (.cells #[.int .i64 d.k, .int .i64 d.t, .int .i64 d.p, .int .i64 d.i, .int .u64 d.n, .int .u64 d.m, .slice Db d.body.length cb2, .slice Dp d.preds.length cp2] 29)).cell? ⟨bx, 0, none⟩ = some (.int .i64 c.k) := cell_of_row _ bx 0 _ _ (0, 0) hrow3
  have l1 : (w2.alloc (.cells #[.int .i64 d.k, .int .i64 d.t, .int .i64 d.p, .int .i64 d.i, .int .u64 d.n, .int .u64 d.m, .slice Db d.body.length cb2, .slice Dp d.preds.length cp2] 29)).cell? ⟨bx, 1, none⟩ = some (.int .i64 c.t) := cell_of_row _ bx 1 _ _ (0, 0) hrow3
  have l2 : (w2.alloc (.cells #[.int .i64 d.k, .int .i64 d.t, .int .i64 d.p, .int .i64 d.i, .int .u64 d.n, .int .u64 d.m, .slice Db d.body.length cb2, .slice Dp d.preds.length cp2] 29)).cell? ⟨bx, 2, none⟩ = some (.int .i64 c.p) := cell_of_row _ bx 2 _ _ (0, 0) hrow3
  have l3 : (w2.alloc (.cells #[.int .i64 d.k, .int .i64 d.t, .int .i64 d.p, .int .i64 d.i, .int .u64 d.n, .int .u64 d.m, .slice Db d.body.length cb2, .slice Dp d.preds.length cp2] 29)).cell? ⟨bx, 3, none⟩ = some (.int .i64 c.i) := cell_of_row _ bx 3 _ _ (0, 0) hrow3
  have l4 : (w2.alloc (.cells #[.int .i64 d.k, .int .i64 d.t, .int .i64 d.p, .int .i64 d.i, .int .u64 d.n, .int .u64 d.m, .slice Db d.body.length cb2, .slice Dp d.preds.length cp2] 29)).cell? ⟨bx, 4, none⟩ = some (.int .u64 c.n) := cell_of_row _ bx 4 _ _ (0, 0) hrow3
  have l5 : (w2.alloc (.cells #[.int .i64 d.k, .int .i64 d.t, .int .i64 d.p, .int .i64 d.i, .int .u64 d.n, .int .u64 d.m, .slice Db d.body.length cb2, .slice Dp d.preds.length cp2] 29)).cell? ⟨bx, 5, none⟩ = some (.int .u64 c.m) := cell_of_row _ bx 5 _ _ (0, 0) hrow3
  have l6 : (w2.alloc (.cells #[.int .i64 d.k, .int .i64 d.t, .int .i64 d.p, .int .i64 d.i, .int .u64 d.n, .int .u64 d.m, .slice Db d.body.length cb2, .slice Dp d.preds.length cp2] 29)).cell? ⟨bx, 6, none⟩ = some (.slice Ab c.body.length cb) := cell_of_row _ bx 6 _ _ (0, 0) hrow3
  have l7 : (w2.alloc (.cells #[.int .i64 d.k, .int .i64 d.t, .int .i64 d.p, .int .i64 d.i, .int .u64 d.n, .int .u64 d.m, .slice Db d.body.length cb2, .slice Dp d.preds.length cp2] 29)).cell? ⟨bx, 7, none⟩ = some (.slice Ap c.preds.length cp) := cell_of_row _ bx 7 _ _ (0, 0) hrow3
  by_cases he : er = 0
  · subst he
    have hsm := cmSame_calls c d Ab Ap cb bb ob cp bp op Db Dp cb2 bb2 ob2 cp2 bp2 op2 _ ((hb'.out.keep hx02 nb1).keep hxd nb1) ((hp'.out.keep hx02 nb1).keep hxd nb1) (hrb.keep hxd nb1) (hrp.keep hxd nb1)
    rw [hcv.out] at hsm
    unfold cmVal at hsm
    have hsm := Lib.hid hsm
    by_cases hd : d = c
    · have hv : Hid (T = (lv, 0)) := by show _ = _; rw [hTT.out, if_pos (by rw [hd])]
      have hdd : Hid (decide (c = d) = true) := decide_eq_true hd.symm
      clear hd
      go_wp2_with (first
        | (go_at_call 18; refine hsm.out.mono ?_; rintro e w4 ⟨rfl, hx4⟩; rw [hdd.out]))
      go_ret2
      exact ⟨by rw [hv.out, hS.out]; rfl, (hx02.alloc _).trans hx4 (fun _ _ e => e)⟩
    · have hv : Hid (T = ([], 1)) := by show _ = _; rw [hTT.out, if_neg (fun e => hd (by injection e))]
      have hdd : Hid (decide (c = d) = false) := decide_eq_false (fun e => hd e.symm)
      clear hd
      go_wp2_with (first
        | (go_at_call 18; refine hsm.out.mono ?_; rintro e w4 ⟨rfl, hx4⟩; rw [hdd.out]))
      go_ret2
      exact ⟨by rw [hv.out]; rfl, (hx02.alloc _).trans hx4 (fun _ _ e => e)⟩
  · have hv : Hid (T = ([], 1)) := by show _ = _; rw [hTT.out, if_neg (fun e => he (by injection e))]
    have t0 : (er != 0) = true := by rw [bne_iff_ne]; exact he
    clear he
    go_wp2_with fail
    go_ret2
    exact ⟨by rw [hv.out]; rfl, hx02.alloc _⟩
end Go.Proofs.YtgiimmiandhkhaaDoor
