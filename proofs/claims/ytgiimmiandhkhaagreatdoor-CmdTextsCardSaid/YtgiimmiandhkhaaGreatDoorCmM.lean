/- The commands: the document's Text; CmdTexts. Printed by gen-cmm.py. -/
import Derived.Test.YtgiimmiandhkhaaGreatDoorProg
import Derived.Test.YtgiimmiandhkhaaGreatDoorCmL
namespace Go.Proofs.YtgiimmiandhkhaaGreatDoor
open Go.RowKit
set_option linter.unusedSimpArgs false
set_option linter.unusedVariables false

def textO (c : Cm) : Option (List UInt8) := if cmdV (lineV c) = (c, 0) then some (lineV c) else none

set_option maxRecDepth 40000 in
set_option maxHeartbeats 16000000 in
theorem textRR_calls (c : Cm) (hR : CmR c) (Ab Ap : Option Addr) (cb bb ob cp bp op : Nat) (w : World) (hb : SlR w 3 opB Ab cb bb ob c.body) (hp : SlR w 1 intE Ap cp bp op c.preds) :
    Calls Tryz.prog 10 #[cmVal c (.slice Ab c.body.length cb) (.slice Ap c.preds.length cp)] w fun e w' => e = .returned (.tuple #[.string (mk ((textO c).getD [])), .bool (textO c).isSome]) ∧ Ext NoB w w' := by
  have hrow := alloc_at w (.cells #[.int .i64 c.k, .int .i64 c.t, .int .i64 c.p, .int .i64 c.i, .int .u64 c.n, .int .u64 c.m, .slice Ab c.body.length cb, .slice Ap c.preds.length cp] 26)
  have hx0 : Ext NoB w (w.alloc (.cells #[.int .i64 c.k, .int .i64 c.t, .int .i64 c.p, .int .i64 c.i, .int .u64 c.n, .int .u64 c.m, .slice Ab c.body.length cb, .slice Ap c.preds.length cp] 26)) := (Ext.refl NoB w).alloc _
  have hlc := lineR_calls c hR Ab Ap cb bb ob cp bp op _ (hb.keep hx0 nb1) (hp.keep hx0 nb1)
  unfold cmVal at hlc ⊢
  have hld : (mk (lineR c)).data.toList = lineR c := by simp [mk]
  have hpc := fun w' => cmParseR_calls (mk (lineR c)) w'
  rw [hld, refV_eq] at hpc
  replace hpc := Lib.hid hpc
  replace hlc := Lib.hid hlc
  have hT : Hid (textO c = if lineR c = [] then none else if cmdV (lineR c) = (c, 0) then some (lineR c) else none) := (textR_eq c).symm
  have hb' := Lib.hid hb
  have hp' := Lib.hid hp
  clear hld hb hp
  go_enter Tryz.func10, Tryz.ntmps10
  go_wp2_with fail
  refine hlc.out.mono ?_
  rintro e w1 ⟨rfl, hx1⟩
  have hx01 := hx0.trans hx1 (fun _ _ e => e)
  have hrow1 := hx1.keep hrow nb
  have hnil : Hid (lineR c = [] ↔ (mk (lineR c)).toList = []) := by
    show _ ↔ _
    rw [ByteArray.toList_eq]
    simp [mk]
  generalize hS : mk (lineR c) = S at *
  replace hS := Lib.hid hS
  generalize hlv : lineR c = lv at *
  replace hlv := Lib.hid hlv
  generalize w.heap.size = bx at *
  go_wp2_with fail
  refine (hpc.out w1).mono ?_
  rintro e w2 ⟨bv, pv, gb, gp, rfl, hOb, hOp, hgb, hgp, hx2⟩
  obtain ⟨Db, cb2, bb2, ob2, rfl, hrb, _⟩ := hOb.read
  obtain ⟨Dp, cp2, bp2, op2, rfl, hrp, _⟩ := hOp.read
  have hx02 := hx01.trans hx2 (fun _ _ e => e)
  have hrow2 := hx2.keep hrow1 nb
  generalize hcd : cmdV lv = R at *
  obtain ⟨d, er⟩ := R
  replace hcd := Lib.hid hcd
  dsimp only at *
  have hxd : Ext NoB w2 (w2.alloc (.cells #[.int .i64 d.k, .int .i64 d.t, .int .i64 d.p, .int .i64 d.i, .int .u64 d.n, .int .u64 d.m, .slice Db d.body.length cb2, .slice Dp d.preds.length cp2] 26)) := (Ext.refl NoB w2).alloc _
  have hrow3 := hxd.keep hrow2 nb
  have l0 : (w2.alloc (.cells #[.int .i64 d.k, .int .i64 d.t, .int .i64 d.p, .int .i64 d.i, .int .u64 d.n, .int .u64 d.m, .slice Db d.body.length cb2, .slice Dp d.preds.length cp2] 26)).cell? ⟨bx, 0, none⟩ = some (.int .i64 c.k) := cell_of_row _ bx 0 _ _ (0, 0) hrow3
  have l1 : (w2.alloc (.cells #[.int .i64 d.k, .int .i64 d.t, .int .i64 d.p, .int .i64 d.i, .int .u64 d.n, .int .u64 d.m, .slice Db d.body.length cb2, .slice Dp d.preds.length cp2] 26)).cell? ⟨bx, 1, none⟩ = some (.int .i64 c.t) := cell_of_row _ bx 1 _ _ (0, 0) hrow3
  have l2 : (w2.alloc (.cells #[.int .i64 d.k, .int .i64 d.t, .int .i64 d.p, .int .i64 d.i, .int .u64 d.n, .int .u64 d.m, .slice Db d.body.length cb2, .slice Dp d.preds.length cp2] 26)).cell? ⟨bx, 2, none⟩ = some (.int .i64 c.p) := cell_of_row _ bx 2 _ _ (0, 0) hrow3
  have l3 : (w2.alloc (.cells #[.int .i64 d.k, .int .i64 d.t, .int .i64 d.p, .int .i64 d.i, .int .u64 d.n, .int .u64 d.m, .slice Db d.body.length cb2, .slice Dp d.preds.length cp2] 26)).cell? ⟨bx, 3, none⟩ = some (.int .i64 c.i) := cell_of_row _ bx 3 _ _ (0, 0) hrow3
  have l4 : (w2.alloc (.cells #[.int .i64 d.k, .int .i64 d.t, .int .i64 d.p, .int .i64 d.i, .int .u64 d.n, .int .u64 d.m, .slice Db d.body.length cb2, .slice Dp d.preds.length cp2] 26)).cell? ⟨bx, 4, none⟩ = some (.int .u64 c.n) := cell_of_row _ bx 4 _ _ (0, 0) hrow3
  have l5 : (w2.alloc (.cells #[.int .i64 d.k, .int .i64 d.t, .int .i64 d.p, .int .i64 d.i, .int .u64 d.n, .int .u64 d.m, .slice Db d.body.length cb2, .slice Dp d.preds.length cp2] 26)).cell? ⟨bx, 5, none⟩ = some (.int .u64 c.m) := cell_of_row _ bx 5 _ _ (0, 0) hrow3
  have l6 : (w2.alloc (.cells #[.int .i64 d.k, .int .i64 d.t, .int .i64 d.p, .int .i64 d.i, .int .u64 d.n, .int .u64 d.m, .slice Db d.body.length cb2, .slice Dp d.preds.length cp2] 26)).cell? ⟨bx, 6, none⟩ = some (.slice Ab c.body.length cb) := cell_of_row _ bx 6 _ _ (0, 0) hrow3
  have l7 : (w2.alloc (.cells #[.int .i64 d.k, .int .i64 d.t, .int .i64 d.p, .int .i64 d.i, .int .u64 d.n, .int .u64 d.m, .slice Db d.body.length cb2, .slice Dp d.preds.length cp2] 26)).cell? ⟨bx, 7, none⟩ = some (.slice Ap c.preds.length cp) := cell_of_row _ bx 7 _ _ (0, 0) hrow3
  by_cases h0 : lv = []
  · have hv : Hid (textO c = none) := by show _ = _; rw [hT.out, if_pos h0]
    have t0 : (S.toList == []) = true := by rw [beq_iff_eq]; exact hnil.out.1 h0
    clear h0
    go_wp2_with fail
    go_ret2
    exact ⟨by rw [hv.out]; rfl, hx02.alloc _⟩
  have t0 : (S.toList == []) = false := by rw [beq_eq_false_iff_ne]; exact fun e => h0 (hnil.out.2 e)
  have hT2 : Hid (textO c = if (d, er) = (c, 0) then some lv else none) := by show _ = _; rw [hT.out, if_neg h0]
  clear h0
  by_cases he : er = 0
  · subst he
    have hsm := cmSameR_calls c d Ab Ap cb bb ob cp bp op Db Dp cb2 bb2 ob2 cp2 bp2 op2 _ ((hb'.out.keep hx02 nb1).keep hxd nb1) ((hp'.out.keep hx02 nb1).keep hxd nb1) (hrb.keep hxd nb1) (hrp.keep hxd nb1)
    unfold cmVal at hsm
    replace hsm := Lib.hid hsm
    by_cases hd : d = c
    · have hv : Hid (textO c = some lv) := by show _ = _; rw [hT2.out, if_pos (by rw [hd])]
      have hdd : Hid (decide (c = d) = true) := decide_eq_true hd.symm
      clear hd
      go_wp2_with (go_at_call 7; refine hsm.out.mono ?_; rintro e w4 ⟨rfl, hx4⟩; rw [hdd.out])
      go_ret2
      exact ⟨by rw [hv.out, ← hS.out]; rfl, (hx02.alloc _).trans hx4 (fun _ _ e => e)⟩
    · have hv : Hid (textO c = none) := by show _ = _; rw [hT2.out, if_neg (fun e => hd (by injection e))]
      have hdd : Hid (decide (c = d) = false) := decide_eq_false (fun e => hd e.symm)
      clear hd
      go_wp2_with (go_at_call 7; refine hsm.out.mono ?_; rintro e w4 ⟨rfl, hx4⟩; rw [hdd.out])
      go_ret2
      exact ⟨by rw [hv.out]; rfl, (hx02.alloc _).trans hx4 (fun _ _ e => e)⟩
  · have hv : Hid (textO c = none) := by show _ = _; rw [hT2.out, if_neg (fun e => he (by injection e))]
    have t1 : (er != 0) = true := by rw [bne_iff_ne]; exact he
    clear he
    go_wp2_with fail
    go_ret2
    exact ⟨by rw [hv.out]; rfl, hx02.alloc _⟩

set_option maxRecDepth 40000 in
set_option maxHeartbeats 16000000 in
theorem ctexts_calls (c : Cm) (hR : CmR c) (Ab Ap : Option Addr) (cb bb ob cp bp op : Nat) (w : World) (hG : Gl w) (hb : SlR w 3 opB Ab cb bb ob c.body) (hp : SlR w 1 intE Ap cp bp op c.preds) :
    Calls Tryz.prog 4 #[cmVal c (.slice Ab c.body.length cb) (.slice Ap c.preds.length cp)] w fun e w' => e = .returned (.bool true) ∧ Ext NoB w w' := by
  have hrow := alloc_at w (.cells #[.int .i64 c.k, .int .i64 c.t, .int .i64 c.p, .int .i64 c.i, .int .u64 c.n, .int .u64 c.m, .slice Ab c.body.length cb, .slice Ap c.preds.length cp] 26)
  have hx0 : Ext NoB w (w.alloc (.cells #[.int .i64 c.k, .int .i64 c.t, .int .i64 c.p, .int .i64 c.i, .int .u64 c.n, .int .u64 c.m, .slice Ab c.body.length cb, .slice Ap c.preds.length cp] 26)) := (Ext.refl NoB w).alloc _
  have hbm := hb.max
  have hbl := hb.le
  have hpm := hp.max
  have hpl := hp.le
  unfold maxLen at hbm hpm
  have htc := cmText_calls c hR Ab Ap cb bb ob cp bp op _ (hG.keep hx0) (hb.keep hx0 nb1) (hp.keep hx0 nb1)
  unfold cmVal at htc ⊢
  replace htc := Lib.hid htc
  by_cases h1 : 40 < c.body.length
  · have t1 : decide (40 < c.body.length) = true := by simp [h1]
    have t1' : decide ((40 : Int) < (c.body.length : Int)) = true := by simp; omega
    have haw := Lib.hid (awake24_calls _ (hG.keep hx0))
    go_enter Tryz.func4, Tryz.ntmps4
    go_wp2_with fail
    refine haw.out.mono ?_
    rintro e w1 ⟨rfl, hx1⟩
    go_wp2_with fail
    go_ret
    exact ⟨rfl, hx0.trans hx1 (fun _ _ e => e)⟩
  have t1 : decide (40 < c.body.length) = false := by simp; omega
  have t1' : decide ((40 : Int) < (c.body.length : Int)) = false := by simp; omega
  by_cases h2 : 40 < c.preds.length
  · have t2 : decide (40 < c.preds.length) = true := by simp [h2]
    have t2' : decide ((40 : Int) < (c.preds.length : Int)) = true := by simp; omega
    have haw := Lib.hid (awake24_calls _ (hG.keep hx0))
    go_enter Tryz.func4, Tryz.ntmps4
    go_wp2_with fail
    refine haw.out.mono ?_
    rintro e w1 ⟨rfl, hx1⟩
    go_wp2_with fail
    go_ret
    exact ⟨rfl, hx0.trans hx1 (fun _ _ e => e)⟩
  have t2 : decide (40 < c.preds.length) = false := by simp; omega
  have t2' : decide ((40 : Int) < (c.preds.length : Int)) = false := by simp; omega
  go_enter Tryz.func4, Tryz.ntmps4
  go_wp2_with fail
  refine htc.out.mono ?_
  rintro e w1 ⟨rfl, hx1⟩
  have hx01 := hx0.trans hx1 (fun _ _ e => e)
  have hrow1 := hx1.keep hrow nb
  generalize w.heap.size = bx at *
  have l0 : (w1).cell? ⟨bx, 0, none⟩ = some (.int .i64 c.k) := cell_of_row _ bx 0 _ _ (0, 0) hrow1
  have l1 : (w1).cell? ⟨bx, 1, none⟩ = some (.int .i64 c.t) := cell_of_row _ bx 1 _ _ (0, 0) hrow1
  have l2 : (w1).cell? ⟨bx, 2, none⟩ = some (.int .i64 c.p) := cell_of_row _ bx 2 _ _ (0, 0) hrow1
  have l3 : (w1).cell? ⟨bx, 3, none⟩ = some (.int .i64 c.i) := cell_of_row _ bx 3 _ _ (0, 0) hrow1
  have l4 : (w1).cell? ⟨bx, 4, none⟩ = some (.int .u64 c.n) := cell_of_row _ bx 4 _ _ (0, 0) hrow1
  have l5 : (w1).cell? ⟨bx, 5, none⟩ = some (.int .u64 c.m) := cell_of_row _ bx 5 _ _ (0, 0) hrow1
  have l6 : (w1).cell? ⟨bx, 6, none⟩ = some (.slice Ab c.body.length cb) := cell_of_row _ bx 6 _ _ (0, 0) hrow1
  have l7 : (w1).cell? ⟨bx, 7, none⟩ = some (.slice Ap c.preds.length cp) := cell_of_row _ bx 7 _ _ (0, 0) hrow1
  have htr := textRR_calls c hR Ab Ap cb bb ob cp bp op w1 (hb.keep hx01 nb1) (hp.keep hx01 nb1)
  unfold cmVal at htr
  replace htr := Lib.hid htr
  have hpc := cmParse_calls (mk (lineV c))
  rw [show (mk (lineV c)).data.toList = lineV c by simp [mk]] at hpc
  have hbH := Lib.hid hb
  have hpH := Lib.hid hp
  have hGH := Lib.hid hG
  by_cases hok : cmdV (lineV c) = (c, 0)
  · have hv1 : textV c = (lineV c, 0) := by unfold textV; rw [if_pos hok]
    have hv2 : textO c = some (lineV c) := by unfold textO; rw [if_pos hok]
    rw [hok] at hpc
    replace hpc := Lib.hid hpc
    rw [hv2] at htr
    rw [hv1]
    simp only [Option.getD_some, Option.isSome_some] at htr
    replace htr := Lib.hid htr
    clear hv1 hv2 hok hb hp hG
    generalize mk (lineV c) = S at *
    have uu : (S.toList == S.toList) = true := by simp
    go_wp2_with fail
    refine htr.out.out.mono ?_
    rintro e w2 ⟨rfl, hx2⟩
    have hx02 := hx01.trans hx2 (fun _ _ e => e)
    have hrow2 := hx2.keep hrow1 nb
    go_wp2_with fail
    refine (hpc.out w2 (hGH.out.keep hx02)).mono ?_
    rintro e w3 ⟨bv, pv, gb, gp, rfl, hOb, hOp, hgb, hgp, hx3⟩
    obtain ⟨Db, cb2, bb2, ob2, rfl, hrb, _⟩ := hOb.read
    obtain ⟨Dp, cp2, bp2, op2, rfl, hrp, _⟩ := hOp.read
    dsimp only at *
    have hx03 := hx02.trans hx3 (fun _ _ e => e)
    have hxd : Ext NoB w3 (w3.alloc (.cells #[.int .i64 c.k, .int .i64 c.t, .int .i64 c.p, .int .i64 c.i, .int .u64 c.n, .int .u64 c.m, .slice Db c.body.length cb2, .slice Dp c.preds.length cp2] 26)) := (Ext.refl NoB w3).alloc _
    have hrow3 := hxd.keep (hx3.keep hrow2 nb) nb
    have hx04 := hx03.trans hxd (fun _ _ e => e)
    have m0 : (w3.alloc (.cells #[.int .i64 c.k, .int .i64 c.t, .int .i64 c.p, .int .i64 c.i, .int .u64 c.n, .int .u64 c.m, .slice Db c.body.length cb2, .slice Dp c.preds.length cp2] 26)).cell? ⟨bx, 0, none⟩ = some (.int .i64 c.k) := cell_of_row _ bx 0 _ _ (0, 0) hrow3
    have m1 : (w3.alloc (.cells #[.int .i64 c.k, .int .i64 c.t, .int .i64 c.p, .int .i64 c.i, .int .u64 c.n, .int .u64 c.m, .slice Db c.body.length cb2, .slice Dp c.preds.length cp2] 26)).cell? ⟨bx, 1, none⟩ = some (.int .i64 c.t) := cell_of_row _ bx 1 _ _ (0, 0) hrow3
    have m2 : (w3.alloc (.cells #[.int .i64 c.k, .int .i64 c.t, .int .i64 c.p, .int .i64 c.i, .int .u64 c.n, .int .u64 c.m, .slice Db c.body.length cb2, .slice Dp c.preds.length cp2] 26)).cell? ⟨bx, 2, none⟩ = some (.int .i64 c.p) := cell_of_row _ bx 2 _ _ (0, 0) hrow3
    have m3 : (w3.alloc (.cells #[.int .i64 c.k, .int .i64 c.t, .int .i64 c.p, .int .i64 c.i, .int .u64 c.n, .int .u64 c.m, .slice Db c.body.length cb2, .slice Dp c.preds.length cp2] 26)).cell? ⟨bx, 3, none⟩ = some (.int .i64 c.i) := cell_of_row _ bx 3 _ _ (0, 0) hrow3
    have m4 : (w3.alloc (.cells #[.int .i64 c.k, .int .i64 c.t, .int .i64 c.p, .int .i64 c.i, .int .u64 c.n, .int .u64 c.m, .slice Db c.body.length cb2, .slice Dp c.preds.length cp2] 26)).cell? ⟨bx, 4, none⟩ = some (.int .u64 c.n) := cell_of_row _ bx 4 _ _ (0, 0) hrow3
    have m5 : (w3.alloc (.cells #[.int .i64 c.k, .int .i64 c.t, .int .i64 c.p, .int .i64 c.i, .int .u64 c.n, .int .u64 c.m, .slice Db c.body.length cb2, .slice Dp c.preds.length cp2] 26)).cell? ⟨bx, 5, none⟩ = some (.int .u64 c.m) := cell_of_row _ bx 5 _ _ (0, 0) hrow3
    have m6 : (w3.alloc (.cells #[.int .i64 c.k, .int .i64 c.t, .int .i64 c.p, .int .i64 c.i, .int .u64 c.n, .int .u64 c.m, .slice Db c.body.length cb2, .slice Dp c.preds.length cp2] 26)).cell? ⟨bx, 6, none⟩ = some (.slice Ab c.body.length cb) := cell_of_row _ bx 6 _ _ (0, 0) hrow3
    have m7 : (w3.alloc (.cells #[.int .i64 c.k, .int .i64 c.t, .int .i64 c.p, .int .i64 c.i, .int .u64 c.n, .int .u64 c.m, .slice Db c.body.length cb2, .slice Dp c.preds.length cp2] 26)).cell? ⟨bx, 7, none⟩ = some (.slice Ap c.preds.length cp) := cell_of_row _ bx 7 _ _ (0, 0) hrow3
    have hsm := cmSameR_calls c c Ab Ap cb bb ob cp bp op Db Dp cb2 bb2 ob2 cp2 bp2 op2 _ (hbH.out.keep hx04 nb1) (hpH.out.keep hx04 nb1) (hrb.keep hxd nb1) (hrp.keep hxd nb1)
    rw [show decide (c = c) = true by simp] at hsm
    unfold cmVal at hsm
    replace hsm := Lib.hid hsm
    go_wp2_with (first
      | (go_at_call 7; refine hsm.out.mono ?_; rintro e w5 ⟨rfl, hx5⟩; have hx05 := hx04.trans hx5 (fun _ _ e => e))
      | (go_at_call 8; refine (awake24_calls w5 (hGH.out.keep hx05)).mono ?_; rintro e w6 ⟨rfl, hx6⟩))
    go_ret
    exact ⟨rfl, hx05.trans hx6 (fun _ _ e => e)⟩
  · have hv1 : textV c = ([], 1) := by unfold textV; rw [if_neg hok]
    have hv2 : textO c = none := by unfold textO; rw [if_neg hok]
    rw [hv2] at htr
    rw [hv1]
    simp only [Option.getD_none, Option.isSome_none] at htr
    replace htr := Lib.hid htr
    have hS : mk [] = ⟨#[]⟩ := rfl
    dsimp only
    rw [hS]
    clear hv1 hv2 hok hb hp hG hpc hS
    go_wp2_with fail
    refine htr.out.out.mono ?_
    rintro e w2 ⟨rfl, hx2⟩
    have hx02 := hx01.trans hx2 (fun _ _ e => e)
    go_wp2_with (go_at_call 8; refine (awake24_calls w2 (hGH.out.keep hx02)).mono ?_; rintro e w6 ⟨rfl, hx6⟩)
    go_ret
    exact ⟨rfl, hx02.trans hx6 (fun _ _ e => e)⟩
end Go.Proofs.YtgiimmiandhkhaaGreatDoor
