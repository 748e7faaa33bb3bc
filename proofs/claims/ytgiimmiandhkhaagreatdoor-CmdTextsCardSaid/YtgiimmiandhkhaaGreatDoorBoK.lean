/- The bodies: the reference's opOf. Printed by gen-opof.py. -/
import Derived.Test.YtgiimmiandhkhaaGreatDoorProg
import Derived.Test.YtgiimmiandhkhaaGreatDoorBoJ
import Derived.Test.YtgiimmiandhkhaaGreatDoorBoO
namespace Go.Proofs.YtgiimmiandhkhaaGreatDoor
open Go.RowKit
set_option linter.unusedSimpArgs false
set_option linter.unusedVariables false

def natE (n : Nat) : List Value := [.int .i64 (n : Int)]
theorem natE_len (v : Nat) : (natE v).length = 1 := rfl
theorem natE_one (t : Nat) : ∀ u ∈ natE t, u.oneCell' = true := by
  intro u hu
  simp only [natE, List.mem_cons, List.not_mem_nil, or_false] at hu
  subst hu; rfl
theorem elem_nat : ElemT Tryz.prog 24 3 1 8 := elemT_of (z := .int .i64 0) Tryz.underlying24 (by kernel_rfl) rfl (by decide)
theorem numsL_snoc : ∀ (L : List (List UInt8)) (ns : List Nat) (x : List UInt8) (v : Nat), numsL L = some ns → numV x 9 = some v → numsL (L ++ [x]) = some (ns ++ [v])
  | [], ns, x, v, h, hx => by simp [numsL] at h; subst h; simp [numsL, hx]
  | y :: r, ns, x, v, h, hx => by
    unfold numsL at h
    cases hy : numV y 9 with
    | none => rw [hy] at h; cases h
    | some u =>
      rw [hy] at h
      cases hr : numsL r with
      | none => rw [hr] at h; cases h
      | some ms =>
        rw [hr] at h
        simp only [Option.map_some, Option.some.injEq] at h
        subst h
        rw [List.cons_append, numsL, hy]
        simp only []
        rw [numsL_snoc r ms x v hr hx]; rfl
theorem numsL_bad : ∀ (L : List (List UInt8)) (x : List UInt8) (t : List (List UInt8)), numV x 9 = none → numsL (L ++ x :: t) = none
  | [], x, t, hx => by simp [numsL, hx]
  | y :: r, x, t, hx => by
    rw [List.cons_append, numsL, numsL_bad r x t hx]
    cases numV y 9 <;> rfl
theorem numsL_len : ∀ (L : List (List UInt8)) (ns : List Nat), numsL L = some ns → ns.length = L.length
  | [], ns, h => by simp [numsL] at h; subst h; rfl
  | y :: r, ns, h => by
    have := congrArg List.length (numsL_dec _ _ h)
    simpa using this.symm
theorem numV_lt {w : List UInt8} {v : Nat} (h : numV w 9 = some v) : v < 1000000000 := by
  obtain ⟨_, h2, h3, h4⟩ := numV_some h
  rw [h2]
  exact Nat.lt_of_lt_of_le (valL_lt w h4) (Nat.pow_le_pow_right (by decide) h3)

set_option maxRecDepth 20000 in
set_option maxHeartbeats 8000000 in
theorem opOf_calls (s : ByteArray) (hs : s.size ≤ 1000000) (w : World) : Calls Tryz.prog 45 #[.string s] w fun e w' => e = .returned (.tuple #[.agg #[.int .i64 (opRV s.data.toList).1.k, .int .i64 (opRV s.data.toList).1.a, .int .i64 (opRV s.data.toList).1.b], .bool (opRV s.data.toList).2]) ∧ Ext NoB w w' := by
  have hx0 : Ext NoB w (w.alloc (.cells #[.int .i64 0, .int .i64 0, .int .i64 0] 68)) := (Ext.refl NoB w).alloc _
  have hb0 := alloc_at w (.cells #[.int .i64 0, .int .i64 0, .int .i64 0] 68)
  generalize hRd : opRV s.data.toList = R
  have hRd := Lib.hid hRd
  go_enter Tryz.func45, Tryz.ntmps45
  go_wp2_with fail
  obtain ⟨bt, hbt⟩ : ∃ bt, w.heap.size = bt := ⟨_, rfl⟩
  rw [hbt] at hb0 ⊢
  have hblt := lt_of_block hb0
  generalize w.alloc (.cells #[.int .i64 0, .int .i64 0, .int .i64 0] 68) = w0 at *
  refine (wordsR_calls s 32 hs _).mono ?_
  rintro e w1 ⟨v, g, B, rfl, hBm, hO, hx1, hg⟩
  obtain ⟨A, c, b, o, rfl, hr, hgB⟩ := hO.read
  have hBm' := Lib.hid hBm
  have hne : 0 < B.length := by
    refine Nat.pos_of_ne_zero fun e => spl_ne 32 s.data.toList ?_
    rw [← hBm, List.eq_nil_of_length_eq_zero e]; rfl
  obtain ⟨B0, Bt, hB0⟩ : ∃ B0 Bt, B = B0 :: Bt := by cases B with | nil => simp at hne | cons x y => exact ⟨x, y, rfl⟩
  obtain rfl := hr.addr hne
  have hR : Hid (R = match numsL (Bt.map (fun x : ByteArray => x.data.toList)) with | none => (⟨0, 0, 0⟩, false) | some ns => (pickO B0.data.toList ns, fitsB (pickO B0.data.toList ns))) := by
    show _ = _
    rw [← hRd.out]
    unfold opRV
    rw [← hBm, hB0]
    rfl
  have hsz := hr.le
  have hmx := hr.max
  unfold maxLen at hmx
  have hBs : Hid (∀ x ∈ B, x.data.toList.length ≤ 1000000) := by
    show ∀ x ∈ B, _
    intro x hx
    have hm : x.data.toList ∈ spl 32 s.data.toList := by rw [← hBm]; exact List.mem_map.2 ⟨x, hx, rfl⟩
    have := (spl_mem 32 _ _ hm).1
    simp only [Array.length_toList] at this ⊢
    have e1 : x.size = x.data.size := rfl
    have e2 : s.size = s.data.size := rfl
    omega
  have hBl : B.length ≤ 1000001 := by
    have h1 := spl_len 32 s.data.toList
    rw [← hBm, List.length_map] at h1
    simp only [Array.length_toList] at h1
    have e2 : s.size = s.data.size := rfl
    omega
  have hb1 := hx1.keep hb0 nb
  have hx01 := hx0.trans hx1 (fun _ _ e => e)
  have hBtl : B.length = Bt.length + 1 := by rw [hB0]; rfl
  have hB0' := Lib.hid hB0
  have hgb := hgB hne
  have hbb : w0.heap.size ≤ b := hg b hgb
  clear hBm hO hB0 hb0 hRd hgB hne
  go_wp2_with fail
  go_loopw [5, 6] (fun nv i wr => ∃ (k : Nat) (gn : Option Nat) (ns : List Nat), k ≤ Bt.length ∧ i = .int .i64 ((k : Int) + 1) ∧ SlO wr 3 1 natE gn nv ns ∧ Hid (numsL ((Bt.take k).map (fun x : ByteArray => x.data.toList)) = some ns) ∧ Ext NoB w1 wr ∧ (∀ q, gn = some q → w1.heap.size ≤ q) ∧ ns.length = k ∧ (∀ n ∈ ns, n < 1000000000)) (fun _ i _ => Bt.length + 1 - (intOf i).toNat)
  case atStart => exact ⟨0, none, [], Nat.zero_le _, rfl, SlO.nil _ _ _ _, rfl, Ext.refl _ _, by simp, rfl, by simp⟩
  case round =>
    obtain ⟨k, gn, ns, hk, rfl, hnO, hns, hext, hgn, hnl, hnb⟩ := hrel
    by_cases hlt : k < Bt.length
    · have t0 : decide ((k : Int) + 1 < (B.length : Int)) = true := by simp; omega
      have t0' : decide (k + 1 < B.length) = true := by simp; omega
      have hlt' : k + 1 < B.length := by omega
      have hre := hr.keep hext nb1
      have hcell := str_cells hre (k + 1) B[k + 1] (List.getElem?_eq_getElem hlt')
      have hcell' : wr.cell? ⟨b, o + (k + 1), none⟩ = some (.string B[k + 1]) := hcell
      have hBk : Hid (B[k + 1] = Bt[k]) := by show _ = _; simp only [hB0'.out]; rfl
      have hszk : B[k + 1].data.toList.length ≤ 1000000 := hBs.out _ (List.getElem_mem hlt')
      have htk : Hid (Bt.take (k + 1) = Bt.take k ++ [Bt[k]]) := List.take_succ_eq_append_getElem hlt
      have hdr : Hid (Bt = Bt.take k ++ Bt[k] :: Bt.drop (k + 1)) := by
        show _ = _
        rw [← List.drop_eq_getElem_cons hlt, List.take_append_drop]
      go_wp2_with fail
      refine (numberR_calls B[k + 1] wr).mono ?_
      rintro e w2 ⟨rfl, hx2⟩
      have hbad : Hid (numV B[k + 1].data.toList 9 = none → numsL (Bt.map (fun x : ByteArray => x.data.toList)) = none) := fun h => by
        rw [hdr.out, List.map_append, List.map_cons]
        exact numsL_bad _ _ _ (by rw [← hBk.out]; exact h)
      have hgood : Hid (∀ v, numV B[k + 1].data.toList 9 = some v → numsL ((Bt.take (k + 1)).map (fun x : ByteArray => x.data.toList)) = some (ns ++ [v])) := fun v h => by
        rw [htk.out, List.map_append]
        exact numsL_snoc _ _ _ _ hns.out (by rw [← hBk.out]; exact h)
      generalize B[k + 1] = bk at *
      cases hn : numV bk.data.toList 9 with
      | none =>
        have hv : Hid (R = (⟨0, 0, 0⟩, false)) := by show _ = _; rw [hR.out, hbad.out hn]
        clear hn
        have hbt2 := hx2.keep (hext.keep hb1 nb) nb
        go_wp2_with (refine wpList_storeO bt 0 0 0 _ rfl _ _ rfl rfl rfl hbt2 rfl (fun w3 hb3 hx3 => ?_))
        try simp only [Exit.inBlock, Exit.then]
        have q0 : w3.cell? ⟨bt, 0, none⟩ = some (.int .i64 0) := by rw [cell_of_row w3 bt 0 _ _ (0, 0) hb3]; rfl
        have q1 : w3.cell? ⟨bt, 1, none⟩ = some (.int .i64 0) := by rw [cell_of_row w3 bt 1 _ _ (0, 0) hb3]; rfl
        have q2 : w3.cell? ⟨bt, 2, none⟩ = some (.int .i64 0) := by rw [cell_of_row w3 bt 2 _ _ (0, 0) hb3]; rfl
        refine bodyPost_ret (v := .tuple #[.agg #[.int .i64 0, .int .i64 0, .int .i64 0], .bool false]) (by rw [results_cell_tmp rfl]; simp [asAddr, go_sem, q0, q1, q2]) rfl ⟨by rw [hv.out], ?_⟩
        exact ((hx01.trans hext (fun _ _ e => e)).trans hx2 (fun _ _ e => e)).trans hx3 (fun i hi e => by omega)
      | some v =>
        have hv := numV_lt hn
        have hg2 := hgood.out v hn
        clear hn
        have hO2 := hnO.keep hx2 (fun _ _ => nb)
        have hb1 : (ns.length + 1) * 8 ≤ 140737488355328 := by omega
        have hb2 : ns.length + 1 ≤ maxLen := by unfold maxLen; omega
        go_wp2_with (at_builtin; go_loud (refine wpList_appendO (ys := [v]) rfl rfl elem_nat natE_len natE_one (hO2.keep ((Ext.refl NoB _).alloc _) (fun _ _ => nb)) rfl (SlR.one' (alloc_at' _ _ _ (by simp)) rfl) rfl rfl hb1 hb2 (fun v' w5 g' hO' hx5 hg' => ?_)))
        go_roundw
        case rel =>
          refine ⟨k + 1, g', ns ++ [v], by omega, by go_num, hO', hg2, (hext.trans (hx2.alloc _) (fun _ _ e => e)).trans hx5 (fun i hi e => absurd (hgn i e) (by omega)), fun q hq => ?_, by simp; omega, ?_⟩
          · rcases hg' with rfl | rfl
            · exact hgn q hq
            · simp only [Option.some.injEq] at hq
              have h1 := hext.size
              have h2 := hx2.size
              simp at hq
              omega
          · intro n hm
            rcases List.mem_append.1 hm with hm | hm
            · exact hnb n hm
            · rw [List.mem_singleton] at hm; subst hm; exact hv
        case measure => simp [intOf]; omega
    · have t0 : decide ((k : Int) + 1 < (B.length : Int)) = false := by simp; omega
      have t0' : decide (k + 1 < B.length) = false := by simp; omega
      obtain rfl : k = Bt.length := by omega
      have hns' : Hid (numsL (Bt.map (fun x : ByteArray => x.data.toList)) = some ns) := by have := hns.out; rw [List.take_length] at this; exact this
      have hR2 : Hid (R = (pickO B0.data.toList ns, fitsB (pickO B0.data.toList ns))) := by show _ = _; rw [hR.out, hns'.out]
      obtain ⟨A2, c2, b2, o2, rfl, hr2, hg2⟩ := hnO.read
      have hre := hr.keep hext nb1
      have hcell := str_cells hre 0 B0 (by rw [hB0'.out]; rfl)
      rw [Nat.add_zero] at hcell
      have hbt2 := hext.keep hb1 nb
      have hlen0 : 0 < B.length := by omega
      have hm2 := hr2.max
      have hl2 := hr2.le
      unfold maxLen at hm2
      clear hns hR hBs
      have hcx : ∀ ob, (wr.alloc ob).cell? ⟨b, o, none⟩ = some (.string B0) := fun ob => Ext.cell ((Ext.refl NoB wr).alloc ob) hcell nb
      by_cases w1 : B0.data.toList = wdOf 1
      · have u1 : (B0.toList == [110, 111, 112]) = true := by rw [ByteArray.toList_eq, w1]; rfl
        have u2 : (B0.toList == [115, 117, 98, 109, 105, 116]) = false := by rw [ByteArray.toList_eq, w1]; rfl
        have u3 : (B0.toList == [97, 102, 116, 101, 114]) = false := by rw [ByteArray.toList_eq, w1]; rfl
        have u4 : (B0.toList == [99, 97, 110, 99, 101, 108]) = false := by rw [ByteArray.toList_eq, w1]; rfl
        have u5 : (B0.toList == [112, 97, 110, 105, 99]) = false := by rw [ByteArray.toList_eq, w1]; rfl
        by_cases hl : ns.length = 0
        · have hpk : pickO B0.data.toList ns = ⟨1, 0, 0⟩ := by rw [w1, List.eq_nil_of_length_eq_zero hl]; rfl
          rw [hl]
          go_wp2_with fail
          have hR3 : Hid (R = (⟨1, 0, 0⟩, fitsB ⟨1, 0, 0⟩)) := by show _ = _; rw [hR2.out, hpk]
          have hbo : (wr.alloc (.cells #[.int .i64 1, .int .i64 0, .int .i64 0] 68)).heap[wr.heap.size]? = _ := alloc_at wr (.cells #[.int .i64 1, .int .i64 0, .int .i64 0] 68)
          have hx4 : Ext NoB wr (wr.alloc (.cells #[.int .i64 1, .int .i64 0, .int .i64 0] 68)) := ((Ext.refl NoB wr).alloc _)
          generalize (wr.alloc (.cells #[.int .i64 1, .int .i64 0, .int .i64 0] 68)) = w4 at *
          have hbne : bt ≠ wr.heap.size := by have := hext.size; have := hx1.size; omega
          generalize wr.heap.size = bo at *
          have f0 : w4.cell? ⟨bo, 0, none⟩ = some (.int .i64 1) := by rw [cell_of_row w4 bo 0 _ _ (0, 0) hbo]; rfl
          have f1 : w4.cell? ⟨bo, 1, none⟩ = some (.int .i64 0) := by rw [cell_of_row w4 bo 1 _ _ (0, 0) hbo]; rfl
          have f2 : w4.cell? ⟨bo, 2, none⟩ = some (.int .i64 0) := by rw [cell_of_row w4 bo 2 _ _ (0, 0) hbo]; rfl
          refine wp_region_V 9 (fun w' => w'.cell? ⟨bo, 0, none⟩ = some (.int .i64 1) ∧ w'.cell? ⟨bo, 1, none⟩ = some (.int .i64 0) ∧ w'.cell? ⟨bo, 2, none⟩ = some (.int .i64 0)) (by kernel_rfl) ?_
          try simp only [Act.put, List.setIfInBounds_toArray, List.set_cons_zero, List.set_cons_succ]
          refine wpAnyV_take0 (i := 0) (by kernel_rfl) (by kernel_rfl) (by kernel_rfl) (by kernel_rfl) (by kernel_rfl) ⟨f0, f1, f2⟩ (fun o ho => ?_)
          conv at ho => rhs; whnf
          subst ho
          refine ⟨?_, fun _ _ _ h => h, Or.inl ⟨by rfl, ?_⟩, ?_⟩
          rotate_left
          · intro w hSw
            try dsimp only at hSw
            try obtain ⟨z1, z2, z3⟩ := hSw
            first | (go_simp; done) | (go_simp; with_reducible rfl)
          try simp only [Act.put, List.setIfInBounds_toArray, List.set_cons_zero, List.set_cons_succ]
          refine wpAnyV_take0 (i := 1) (by kernel_rfl) (by kernel_rfl) (by kernel_rfl) (by kernel_rfl) (by kernel_rfl) ⟨f0, f1, f2⟩ (fun o ho => ?_)
          conv at ho => rhs; whnf
          subst ho
          refine ⟨?_, fun _ _ _ h => h, Or.inl ⟨by rfl, ?_⟩, ?_⟩
          rotate_left
          · intro w hSw
            try dsimp only at hSw
            try obtain ⟨z1, z2, z3⟩ := hSw
            first | (go_simp; done) | (go_simp; with_reducible rfl)
          try simp only [Act.put, List.setIfInBounds_toArray, List.set_cons_zero, List.set_cons_succ]
          refine wpAnyV_one (i := 2) (by kernel_rfl) (by kernel_rfl) (fun o ho K hK => ?_)
          conv at ho => rhs; whnf
          subst ho
          go_simp
          refine (opOk_calls ⟨1, 0, 0⟩ _).mono ?_
          rintro e w5 ⟨rfl, hx5⟩
          have y0 := hx5.cell f0 nb
          have y1 := hx5.cell f1 nb
          have y2 := hx5.cell f2 nb
          have hbt5 := hx5.keep ((hx4.drew).keep hbt2 nb) nb
          generalize fitsB ⟨1, 0, 0⟩ = fb at *
          go_simp
          refine hK.out _ _ (Or.inr ⟨y0, y1, y2⟩) ?_
          clear hK K
          try simp only [Act.put, List.setIfInBounds_toArray, List.set_cons_zero, List.set_cons_succ]
          refine wpAnyV_one (i := 3) (by kernel_rfl) (by kernel_rfl) (fun o ho K hK => ?_)
          conv at ho => rhs; whnf
          subst ho
          refine step_storeO bt 1 0 0 _ rfl _ _ rfl rfl rfl hbt5 rfl (fun w6 hb6 hx6 => ?_)
          try go_simp
          refine hK.out _ _ (Or.inr ⟨hx6.cell y0 (fun e => hbne e.symm), hx6.cell y1 (fun e => hbne e.symm), hx6.cell y2 (fun e => hbne e.symm)⟩) ?_
          clear hK K
          try simp only [Act.put, List.setIfInBounds_toArray, List.set_cons_zero, List.set_cons_succ]
          refine wpAnyV_one (i := 4) (by kernel_rfl) (by kernel_rfl) (fun o ho K hK => ?_)
          conv at ho => rhs; whnf
          subst ho
          go_simp
          refine hK.out _ _ (Or.inr ⟨hx6.cell y0 (fun e => hbne e.symm), hx6.cell y1 (fun e => hbne e.symm), hx6.cell y2 (fun e => hbne e.symm)⟩) ?_
          clear hK K
          try simp only [Act.put, List.setIfInBounds_toArray, List.set_cons_zero, List.set_cons_succ]
          refine wpAnyV_done (by kernel_rfl) ?_ _
          go_wp2_with fail
          try simp only [Exit.inBlock, Exit.then]
          have q0 : w6.cell? ⟨bt, 0, none⟩ = some (.int .i64 1) := by rw [cell_of_row w6 bt 0 _ _ (0, 0) hb6]; rfl
          have q1 : w6.cell? ⟨bt, 1, none⟩ = some (.int .i64 0) := by rw [cell_of_row w6 bt 1 _ _ (0, 0) hb6]; rfl
          have q2 : w6.cell? ⟨bt, 2, none⟩ = some (.int .i64 0) := by rw [cell_of_row w6 bt 2 _ _ (0, 0) hb6]; rfl
          refine bodyPost_ret (v := .tuple #[.agg #[.int .i64 1, .int .i64 0, .int .i64 0], .bool fb]) (by rw [results_cell_tmp rfl]; simp [asAddr, go_sem, q0, q1, q2]) rfl ⟨by rw [hR3.out], ?_⟩
          exact (((hx01.trans hext (fun _ _ e => e)).trans hx4.drew (fun _ _ e => e)).trans hx5 (fun _ _ e => e)).trans hx6 (fun i hi e => by omega)
        · have l1 : ((ns.length : Int) == 0) = false := by rw [beq_eq_false_iff_ne]; omega
          have l2 : (ns.length == 0) = false := by rw [beq_eq_false_iff_ne]; omega
          have hpk : pickO B0.data.toList ns = ⟨0, 0, 0⟩ := by unfold pickO; rw [w1, if_neg (fun hh => hl hh.2), if_neg (fun hh => absurd hh.1 (by decide)), if_neg (fun hh => absurd hh.1 (by decide)), if_neg (fun hh => absurd hh.1 (by decide)), if_neg (fun hh => absurd hh.1 (by decide))]
          clear hl
          go_wp2_with fail
          have hR3 : Hid (R = (⟨0, 0, 0⟩, fitsB ⟨0, 0, 0⟩)) := by show _ = _; rw [hR2.out, hpk]
          have hbo : (wr.alloc (.cells #[.int .i64 0, .int .i64 0, .int .i64 0] 68)).heap[wr.heap.size]? = _ := alloc_at wr (.cells #[.int .i64 0, .int .i64 0, .int .i64 0] 68)
          have hx4 : Ext NoB wr (wr.alloc (.cells #[.int .i64 0, .int .i64 0, .int .i64 0] 68)) := ((Ext.refl NoB wr).alloc _)
          generalize (wr.alloc (.cells #[.int .i64 0, .int .i64 0, .int .i64 0] 68)) = w4 at *
          have hbne : bt ≠ wr.heap.size := by have := hext.size; have := hx1.size; omega
          generalize wr.heap.size = bo at *
          have f0 : w4.cell? ⟨bo, 0, none⟩ = some (.int .i64 0) := by rw [cell_of_row w4 bo 0 _ _ (0, 0) hbo]; rfl
          have f1 : w4.cell? ⟨bo, 1, none⟩ = some (.int .i64 0) := by rw [cell_of_row w4 bo 1 _ _ (0, 0) hbo]; rfl
          have f2 : w4.cell? ⟨bo, 2, none⟩ = some (.int .i64 0) := by rw [cell_of_row w4 bo 2 _ _ (0, 0) hbo]; rfl
          refine wp_region_V 9 (fun w' => w'.cell? ⟨bo, 0, none⟩ = some (.int .i64 0) ∧ w'.cell? ⟨bo, 1, none⟩ = some (.int .i64 0) ∧ w'.cell? ⟨bo, 2, none⟩ = some (.int .i64 0)) (by kernel_rfl) ?_
          try simp only [Act.put, List.setIfInBounds_toArray, List.set_cons_zero, List.set_cons_succ]
          refine wpAnyV_take0 (i := 0) (by kernel_rfl) (by kernel_rfl) (by kernel_rfl) (by kernel_rfl) (by kernel_rfl) ⟨f0, f1, f2⟩ (fun o ho => ?_)
          conv at ho => rhs; whnf
          subst ho
          refine ⟨?_, fun _ _ _ h => h, Or.inl ⟨by rfl, ?_⟩, ?_⟩
          rotate_left
          · intro w hSw
            try dsimp only at hSw
            try obtain ⟨z1, z2, z3⟩ := hSw
            first | (go_simp; done) | (go_simp; with_reducible rfl)
          try simp only [Act.put, List.setIfInBounds_toArray, List.set_cons_zero, List.set_cons_succ]
          refine wpAnyV_take0 (i := 1) (by kernel_rfl) (by kernel_rfl) (by kernel_rfl) (by kernel_rfl) (by kernel_rfl) ⟨f0, f1, f2⟩ (fun o ho => ?_)
          conv at ho => rhs; whnf
          subst ho
          refine ⟨?_, fun _ _ _ h => h, Or.inl ⟨by rfl, ?_⟩, ?_⟩
          rotate_left
          · intro w hSw
            try dsimp only at hSw
            try obtain ⟨z1, z2, z3⟩ := hSw
            first | (go_simp; done) | (go_simp; with_reducible rfl)
          try simp only [Act.put, List.setIfInBounds_toArray, List.set_cons_zero, List.set_cons_succ]
          refine wpAnyV_one (i := 2) (by kernel_rfl) (by kernel_rfl) (fun o ho K hK => ?_)
          conv at ho => rhs; whnf
          subst ho
          go_simp
          refine (opOk_calls ⟨0, 0, 0⟩ _).mono ?_
          rintro e w5 ⟨rfl, hx5⟩
          have y0 := hx5.cell f0 nb
          have y1 := hx5.cell f1 nb
          have y2 := hx5.cell f2 nb
          have hbt5 := hx5.keep ((hx4.drew).keep hbt2 nb) nb
          generalize fitsB ⟨0, 0, 0⟩ = fb at *
          go_simp
          refine hK.out _ _ (Or.inr ⟨y0, y1, y2⟩) ?_
          clear hK K
          try simp only [Act.put, List.setIfInBounds_toArray, List.set_cons_zero, List.set_cons_succ]
          refine wpAnyV_one (i := 3) (by kernel_rfl) (by kernel_rfl) (fun o ho K hK => ?_)
          conv at ho => rhs; whnf
          subst ho
          refine step_storeO bt 0 0 0 _ rfl _ _ rfl rfl rfl hbt5 rfl (fun w6 hb6 hx6 => ?_)
          try go_simp
          refine hK.out _ _ (Or.inr ⟨hx6.cell y0 (fun e => hbne e.symm), hx6.cell y1 (fun e => hbne e.symm), hx6.cell y2 (fun e => hbne e.symm)⟩) ?_
          clear hK K
          try simp only [Act.put, List.setIfInBounds_toArray, List.set_cons_zero, List.set_cons_succ]
          refine wpAnyV_one (i := 4) (by kernel_rfl) (by kernel_rfl) (fun o ho K hK => ?_)
          conv at ho => rhs; whnf
          subst ho
          go_simp
          refine hK.out _ _ (Or.inr ⟨hx6.cell y0 (fun e => hbne e.symm), hx6.cell y1 (fun e => hbne e.symm), hx6.cell y2 (fun e => hbne e.symm)⟩) ?_
          clear hK K
          try simp only [Act.put, List.setIfInBounds_toArray, List.set_cons_zero, List.set_cons_succ]
          refine wpAnyV_done (by kernel_rfl) ?_ _
          go_wp2_with fail
          try simp only [Exit.inBlock, Exit.then]
          have q0 : w6.cell? ⟨bt, 0, none⟩ = some (.int .i64 0) := by rw [cell_of_row w6 bt 0 _ _ (0, 0) hb6]; rfl
          have q1 : w6.cell? ⟨bt, 1, none⟩ = some (.int .i64 0) := by rw [cell_of_row w6 bt 1 _ _ (0, 0) hb6]; rfl
          have q2 : w6.cell? ⟨bt, 2, none⟩ = some (.int .i64 0) := by rw [cell_of_row w6 bt 2 _ _ (0, 0) hb6]; rfl
          refine bodyPost_ret (v := .tuple #[.agg #[.int .i64 0, .int .i64 0, .int .i64 0], .bool fb]) (by rw [results_cell_tmp rfl]; simp [asAddr, go_sem, q0, q1, q2]) rfl ⟨by rw [hR3.out], ?_⟩
          exact (((hx01.trans hext (fun _ _ e => e)).trans hx4.drew (fun _ _ e => e)).trans hx5 (fun _ _ e => e)).trans hx6 (fun i hi e => by omega)
      · skip
        by_cases w2 : B0.data.toList = wdOf 2
        · have u1 : (B0.toList == [110, 111, 112]) = false := by rw [ByteArray.toList_eq, w2]; rfl
          have u2 : (B0.toList == [115, 117, 98, 109, 105, 116]) = true := by rw [ByteArray.toList_eq, w2]; rfl
          have u3 : (B0.toList == [97, 102, 116, 101, 114]) = false := by rw [ByteArray.toList_eq, w2]; rfl
          have u4 : (B0.toList == [99, 97, 110, 99, 101, 108]) = false := by rw [ByteArray.toList_eq, w2]; rfl
          have u5 : (B0.toList == [112, 97, 110, 105, 99]) = false := by rw [ByteArray.toList_eq, w2]; rfl
          by_cases hl : ns.length = 1
          · obtain ⟨n, hn⟩ : ∃ n, ns = [n] := by match ns, hl with | [n], _ => exact ⟨n, rfl⟩
            have hpk : pickO B0.data.toList ns = ⟨2, (n : Int), 0⟩ := by rw [w2, hn]; rfl
            obtain rfl := hr2.addr (by omega)
            have g0 : wr.cell? ⟨b2, o2, none⟩ = some (.int .i64 (n : Int)) := hr2.cell natE_len 0 n (by rw [hn]; rfl) 0 _ rfl
            have hb2 := World.block_lt_of_cell? wr _ g0
            dsimp only at hb2
            have g0x : ∀ ob, (wr.alloc ob).cell? ⟨b2, o2, none⟩ = some (.int .i64 (n : Int)) := fun ob => Ext.cell ((Ext.refl NoB wr).alloc ob) g0 nb
            rw [hl]
            have hb2n : b2 ≠ wr.heap.size := by omega
            go_wp2_with fail
            have hz := (Ext.refl NoB wr).alloc (.cells #[.int .i64 0, .int .i64 0, .int .i64 0] 68)
            go_region_held3 (fun w' => w'.cell? ⟨b2, o2, none⟩ = some (.int .i64 (n : Int))) (first | exact g0x _ | (go_keep; done)) (fail)
            go_wp2_with fail
            have hR3 : Hid (R = (⟨2, (n : Int), 0⟩, fitsB ⟨2, (n : Int), 0⟩)) := by show _ = _; rw [hR2.out, hpk]
            have hbo : (wr.alloc (.cells #[.int .i64 2, .int .i64 (n : Int), .int .i64 0] 68)).drew.heap[wr.heap.size]? = _ := alloc_at wr (.cells #[.int .i64 2, .int .i64 (n : Int), .int .i64 0] 68)
            have hx4 : Ext NoB wr (wr.alloc (.cells #[.int .i64 2, .int .i64 (n : Int), .int .i64 0] 68)).drew := ((Ext.refl NoB wr).alloc _).drew
            generalize (wr.alloc (.cells #[.int .i64 2, .int .i64 (n : Int), .int .i64 0] 68)).drew = w4 at *
            have hbne : bt ≠ wr.heap.size := by have := hext.size; have := hx1.size; omega
            generalize wr.heap.size = bo at *
            have f0 : w4.cell? ⟨bo, 0, none⟩ = some (.int .i64 2) := by rw [cell_of_row w4 bo 0 _ _ (0, 0) hbo]; rfl
            have f1 : w4.cell? ⟨bo, 1, none⟩ = some (.int .i64 (n : Int)) := by rw [cell_of_row w4 bo 1 _ _ (0, 0) hbo]; rfl
            have f2 : w4.cell? ⟨bo, 2, none⟩ = some (.int .i64 0) := by rw [cell_of_row w4 bo 2 _ _ (0, 0) hbo]; rfl
            refine wp_region_V 9 (fun w' => w'.cell? ⟨bo, 0, none⟩ = some (.int .i64 2) ∧ w'.cell? ⟨bo, 1, none⟩ = some (.int .i64 (n : Int)) ∧ w'.cell? ⟨bo, 2, none⟩ = some (.int .i64 0)) (by kernel_rfl) ?_
            try simp only [Act.put, List.setIfInBounds_toArray, List.set_cons_zero, List.set_cons_succ]
            refine wpAnyV_take0 (i := 0) (by kernel_rfl) (by kernel_rfl) (by kernel_rfl) (by kernel_rfl) (by kernel_rfl) ⟨f0, f1, f2⟩ (fun o ho => ?_)
            conv at ho => rhs; whnf
            subst ho
            refine ⟨?_, fun _ _ _ h => h, Or.inl ⟨by rfl, ?_⟩, ?_⟩
            rotate_left
            · intro w hSw
              try dsimp only at hSw
              try obtain ⟨z1, z2, z3⟩ := hSw
              first | (go_simp; done) | (go_simp; with_reducible rfl)
            try simp only [Act.put, List.setIfInBounds_toArray, List.set_cons_zero, List.set_cons_succ]
            refine wpAnyV_take0 (i := 1) (by kernel_rfl) (by kernel_rfl) (by kernel_rfl) (by kernel_rfl) (by kernel_rfl) ⟨f0, f1, f2⟩ (fun o ho => ?_)
            conv at ho => rhs; whnf
            subst ho
            refine ⟨?_, fun _ _ _ h => h, Or.inl ⟨by rfl, ?_⟩, ?_⟩
            rotate_left
            · intro w hSw
              try dsimp only at hSw
              try obtain ⟨z1, z2, z3⟩ := hSw
              first | (go_simp; done) | (go_simp; with_reducible rfl)
            try simp only [Act.put, List.setIfInBounds_toArray, List.set_cons_zero, List.set_cons_succ]
            refine wpAnyV_one (i := 2) (by kernel_rfl) (by kernel_rfl) (fun o ho K hK => ?_)
            conv at ho => rhs; whnf
            subst ho
            go_simp
            refine (opOk_calls ⟨2, (n : Int), 0⟩ _).mono ?_
            rintro e w5 ⟨rfl, hx5⟩
            have y0 := hx5.cell f0 nb
            have y1 := hx5.cell f1 nb
            have y2 := hx5.cell f2 nb
            have hbt5 := hx5.keep ((hx4.drew).keep hbt2 nb) nb
            generalize fitsB ⟨2, (n : Int), 0⟩ = fb at *
            go_simp
            refine hK.out _ _ (Or.inr ⟨y0, y1, y2⟩) ?_
            clear hK K
            try simp only [Act.put, List.setIfInBounds_toArray, List.set_cons_zero, List.set_cons_succ]
            refine wpAnyV_one (i := 3) (by kernel_rfl) (by kernel_rfl) (fun o ho K hK => ?_)
            conv at ho => rhs; whnf
            subst ho
            refine step_storeO bt 2 (n : Int) 0 _ rfl _ _ rfl rfl rfl hbt5 rfl (fun w6 hb6 hx6 => ?_)
            try go_simp
            refine hK.out _ _ (Or.inr ⟨hx6.cell y0 (fun e => hbne e.symm), hx6.cell y1 (fun e => hbne e.symm), hx6.cell y2 (fun e => hbne e.symm)⟩) ?_
            clear hK K
            try simp only [Act.put, List.setIfInBounds_toArray, List.set_cons_zero, List.set_cons_succ]
            refine wpAnyV_one (i := 4) (by kernel_rfl) (by kernel_rfl) (fun o ho K hK => ?_)
            conv at ho => rhs; whnf
            subst ho
            go_simp
            refine hK.out _ _ (Or.inr ⟨hx6.cell y0 (fun e => hbne e.symm), hx6.cell y1 (fun e => hbne e.symm), hx6.cell y2 (fun e => hbne e.symm)⟩) ?_
            clear hK K
            try simp only [Act.put, List.setIfInBounds_toArray, List.set_cons_zero, List.set_cons_succ]
            refine wpAnyV_done (by kernel_rfl) ?_ _
            go_wp2_with fail
            try simp only [Exit.inBlock, Exit.then]
            have q0 : w6.cell? ⟨bt, 0, none⟩ = some (.int .i64 2) := by rw [cell_of_row w6 bt 0 _ _ (0, 0) hb6]; rfl
            have q1 : w6.cell? ⟨bt, 1, none⟩ = some (.int .i64 (n : Int)) := by rw [cell_of_row w6 bt 1 _ _ (0, 0) hb6]; rfl
            have q2 : w6.cell? ⟨bt, 2, none⟩ = some (.int .i64 0) := by rw [cell_of_row w6 bt 2 _ _ (0, 0) hb6]; rfl
            refine bodyPost_ret (v := .tuple #[.agg #[.int .i64 2, .int .i64 (n : Int), .int .i64 0], .bool fb]) (by rw [results_cell_tmp rfl]; simp [asAddr, go_sem, q0, q1, q2]) rfl ⟨by rw [hR3.out], ?_⟩
            exact (((hx01.trans hext (fun _ _ e => e)).trans hx4.drew (fun _ _ e => e)).trans hx5 (fun _ _ e => e)).trans hx6 (fun i hi e => by omega)
          · have l1 : ((ns.length : Int) == 1) = false := by rw [beq_eq_false_iff_ne]; omega
            have l2 : (ns.length == 1) = false := by rw [beq_eq_false_iff_ne]; omega
            have hpk : pickO B0.data.toList ns = ⟨0, 0, 0⟩ := by unfold pickO; rw [w2, if_neg (fun hh => absurd hh.1 (by decide)), if_neg (fun hh => hl hh.2), if_neg (fun hh => absurd hh.1 (by decide)), if_neg (fun hh => absurd hh.1 (by decide)), if_neg (fun hh => absurd hh.1 (by decide))]
            clear hl
            go_wp2_with fail
            have hR3 : Hid (R = (⟨0, 0, 0⟩, fitsB ⟨0, 0, 0⟩)) := by show _ = _; rw [hR2.out, hpk]
            have hbo : (wr.alloc (.cells #[.int .i64 0, .int .i64 0, .int .i64 0] 68)).heap[wr.heap.size]? = _ := alloc_at wr (.cells #[.int .i64 0, .int .i64 0, .int .i64 0] 68)
            have hx4 : Ext NoB wr (wr.alloc (.cells #[.int .i64 0, .int .i64 0, .int .i64 0] 68)) := ((Ext.refl NoB wr).alloc _)
            generalize (wr.alloc (.cells #[.int .i64 0, .int .i64 0, .int .i64 0] 68)) = w4 at *
            have hbne : bt ≠ wr.heap.size := by have := hext.size; have := hx1.size; omega
            generalize wr.heap.size = bo at *
            have f0 : w4.cell? ⟨bo, 0, none⟩ = some (.int .i64 0) := by rw [cell_of_row w4 bo 0 _ _ (0, 0) hbo]; rfl
            have f1 : w4.cell? ⟨bo, 1, none⟩ = some (.int .i64 0) := by rw [cell_of_row w4 bo 1 _ _ (0, 0) hbo]; rfl
            have f2 : w4.cell? ⟨bo, 2, none⟩ = some (.int .i64 0) := by rw [cell_of_row w4 bo 2 _ _ (0, 0) hbo]; rfl
            refine wp_region_V 9 (fun w' => w'.cell? ⟨bo, 0, none⟩ = some (.int .i64 0) ∧ w'.cell? ⟨bo, 1, none⟩ = some (.int .i64 0) ∧ w'.cell? ⟨bo, 2, none⟩ = some (.int .i64 0)) (by kernel_rfl) ?_
            try simp only [Act.put, List.setIfInBounds_toArray, List.set_cons_zero, List.set_cons_succ]
            refine wpAnyV_take0 (i := 0) (by kernel_rfl) (by kernel_rfl) (by kernel_rfl) (by kernel_rfl) (by kernel_rfl) ⟨f0, f1, f2⟩ (fun o ho => ?_)
            conv at ho => rhs; whnf
            subst ho
            refine ⟨?_, fun _ _ _ h => h, Or.inl ⟨by rfl, ?_⟩, ?_⟩
            rotate_left
            · intro w hSw
              try dsimp only at hSw
              try obtain ⟨z1, z2, z3⟩ := hSw
              first | (go_simp; done) | (go_simp; with_reducible rfl)
            try simp only [Act.put, List.setIfInBounds_toArray, List.set_cons_zero, List.set_cons_succ]
            refine wpAnyV_take0 (i := 1) (by kernel_rfl) (by kernel_rfl) (by kernel_rfl) (by kernel_rfl) (by kernel_rfl) ⟨f0, f1, f2⟩ (fun o ho => ?_)
            conv at ho => rhs; whnf
            subst ho
            refine ⟨?_, fun _ _ _ h => h, Or.inl ⟨by rfl, ?_⟩, ?_⟩
            rotate_left
            · intro w hSw
              try dsimp only at hSw
              try obtain ⟨z1, z2, z3⟩ := hSw
              first | (go_simp; done) | (go_simp; with_reducible rfl)
            try simp only [Act.put, List.setIfInBounds_toArray, List.set_cons_zero, List.set_cons_succ]
            refine wpAnyV_one (i := 2) (by kernel_rfl) (by kernel_rfl) (fun o ho K hK => ?_)
            conv at ho => rhs; whnf
            subst ho
            go_simp
            refine (opOk_calls ⟨0, 0, 0⟩ _).mono ?_
            rintro e w5 ⟨rfl, hx5⟩
            have y0 := hx5.cell f0 nb
            have y1 := hx5.cell f1 nb
            have y2 := hx5.cell f2 nb
            have hbt5 := hx5.keep ((hx4.drew).keep hbt2 nb) nb
            generalize fitsB ⟨0, 0, 0⟩ = fb at *
            go_simp
            refine hK.out _ _ (Or.inr ⟨y0, y1, y2⟩) ?_
            clear hK K
            try simp only [Act.put, List.setIfInBounds_toArray, List.set_cons_zero, List.set_cons_succ]
            refine wpAnyV_one (i := 3) (by kernel_rfl) (by kernel_rfl) (fun o ho K hK => ?_)
            conv at ho => rhs; whnf
            subst ho
            refine step_storeO bt 0 0 0 _ rfl _ _ rfl rfl rfl hbt5 rfl (fun w6 hb6 hx6 => ?_)
            try go_simp
            refine hK.out _ _ (Or.inr ⟨hx6.cell y0 (fun e => hbne e.symm), hx6.cell y1 (fun e => hbne e.symm), hx6.cell y2 (fun e => hbne e.symm)⟩) ?_
            clear hK K
            try simp only [Act.put, List.setIfInBounds_toArray, List.set_cons_zero, List.set_cons_succ]
            refine wpAnyV_one (i := 4) (by kernel_rfl) (by kernel_rfl) (fun o ho K hK => ?_)
            conv at ho => rhs; whnf
            subst ho
            go_simp
            refine hK.out _ _ (Or.inr ⟨hx6.cell y0 (fun e => hbne e.symm), hx6.cell y1 (fun e => hbne e.symm), hx6.cell y2 (fun e => hbne e.symm)⟩) ?_
            clear hK K
            try simp only [Act.put, List.setIfInBounds_toArray, List.set_cons_zero, List.set_cons_succ]
            refine wpAnyV_done (by kernel_rfl) ?_ _
            go_wp2_with fail
            try simp only [Exit.inBlock, Exit.then]
            have q0 : w6.cell? ⟨bt, 0, none⟩ = some (.int .i64 0) := by rw [cell_of_row w6 bt 0 _ _ (0, 0) hb6]; rfl
            have q1 : w6.cell? ⟨bt, 1, none⟩ = some (.int .i64 0) := by rw [cell_of_row w6 bt 1 _ _ (0, 0) hb6]; rfl
            have q2 : w6.cell? ⟨bt, 2, none⟩ = some (.int .i64 0) := by rw [cell_of_row w6 bt 2 _ _ (0, 0) hb6]; rfl
            refine bodyPost_ret (v := .tuple #[.agg #[.int .i64 0, .int .i64 0, .int .i64 0], .bool fb]) (by rw [results_cell_tmp rfl]; simp [asAddr, go_sem, q0, q1, q2]) rfl ⟨by rw [hR3.out], ?_⟩
            exact (((hx01.trans hext (fun _ _ e => e)).trans hx4.drew (fun _ _ e => e)).trans hx5 (fun _ _ e => e)).trans hx6 (fun i hi e => by omega)
        · skip
          by_cases w3 : B0.data.toList = wdOf 3
          · have u1 : (B0.toList == [110, 111, 112]) = false := by rw [ByteArray.toList_eq, w3]; rfl
            have u2 : (B0.toList == [115, 117, 98, 109, 105, 116]) = false := by rw [ByteArray.toList_eq, w3]; rfl
            have u3 : (B0.toList == [97, 102, 116, 101, 114]) = true := by rw [ByteArray.toList_eq, w3]; rfl
            have u4 : (B0.toList == [99, 97, 110, 99, 101, 108]) = false := by rw [ByteArray.toList_eq, w3]; rfl
            have u5 : (B0.toList == [112, 97, 110, 105, 99]) = false := by rw [ByteArray.toList_eq, w3]; rfl
            by_cases hl : ns.length = 2
            · obtain ⟨n, m, hn⟩ : ∃ n m, ns = [n, m] := by match ns, hl with | [n, m], _ => exact ⟨n, m, rfl⟩
              have hpk : pickO B0.data.toList ns = ⟨3, (n : Int), (m : Int)⟩ := by rw [w3, hn]; rfl
              obtain rfl := hr2.addr (by omega)
              have g0 : wr.cell? ⟨b2, o2, none⟩ = some (.int .i64 (n : Int)) := hr2.cell natE_len 0 n (by rw [hn]; rfl) 0 _ rfl
              have g1 : wr.cell? ⟨b2, o2 + 1, none⟩ = some (.int .i64 (m : Int)) := hr2.cell natE_len 1 m (by rw [hn]; rfl) 0 _ rfl
              have hb2 := World.block_lt_of_cell? wr _ g0
              dsimp only at hb2
              have g0x : ∀ ob, (wr.alloc ob).cell? ⟨b2, o2, none⟩ = some (.int .i64 (n : Int)) := fun ob => Ext.cell ((Ext.refl NoB wr).alloc ob) g0 nb
              have g1x : ∀ ob, (wr.alloc ob).cell? ⟨b2, o2 + 1, none⟩ = some (.int .i64 (m : Int)) := fun ob => Ext.cell ((Ext.refl NoB wr).alloc ob) g1 nb
              rw [hl]
              have hb2n : b2 ≠ wr.heap.size := by omega
              go_wp2_with fail
              go_region_held3 (fun w' => w'.cell? ⟨b2, o2, none⟩ = some (.int .i64 (n : Int)) ∧ w'.cell? ⟨b2, o2 + 1, none⟩ = some (.int .i64 (m : Int))) (first | exact ⟨g0x _, g1x _⟩ | (go_keep; done)) (fail)
              go_wp2_with fail
              have hR3 : Hid (R = (⟨3, (n : Int), (m : Int)⟩, fitsB ⟨3, (n : Int), (m : Int)⟩)) := by show _ = _; rw [hR2.out, hpk]
              have hbo : (wr.alloc (.cells #[.int .i64 3, .int .i64 (n : Int), .int .i64 (m : Int)] 68)).drew.heap[wr.heap.size]? = _ := alloc_at wr (.cells #[.int .i64 3, .int .i64 (n : Int), .int .i64 (m : Int)] 68)
              have hx4 : Ext NoB wr (wr.alloc (.cells #[.int .i64 3, .int .i64 (n : Int), .int .i64 (m : Int)] 68)).drew := ((Ext.refl NoB wr).alloc _).drew
              generalize (wr.alloc (.cells #[.int .i64 3, .int .i64 (n : Int), .int .i64 (m : Int)] 68)).drew = w4 at *
              have hbne : bt ≠ wr.heap.size := by have := hext.size; have := hx1.size; omega
              generalize wr.heap.size = bo at *
              have f0 : w4.cell? ⟨bo, 0, none⟩ = some (.int .i64 3) := by rw [cell_of_row w4 bo 0 _ _ (0, 0) hbo]; rfl
              have f1 : w4.cell? ⟨bo, 1, none⟩ = some (.int .i64 (n : Int)) := by rw [cell_of_row w4 bo 1 _ _ (0, 0) hbo]; rfl
              have f2 : w4.cell? ⟨bo, 2, none⟩ = some (.int .i64 (m : Int)) := by rw [cell_of_row w4 bo 2 _ _ (0, 0) hbo]; rfl
              refine wp_region_V 9 (fun w' => w'.cell? ⟨bo, 0, none⟩ = some (.int .i64 3) ∧ w'.cell? ⟨bo, 1, none⟩ = some (.int .i64 (n : Int)) ∧ w'.cell? ⟨bo, 2, none⟩ = some (.int .i64 (m : Int))) (by kernel_rfl) ?_
              try simp only [Act.put, List.setIfInBounds_toArray, List.set_cons_zero, List.set_cons_succ]
              refine wpAnyV_take0 (i := 0) (by kernel_rfl) (by kernel_rfl) (by kernel_rfl) (by kernel_rfl) (by kernel_rfl) ⟨f0, f1, f2⟩ (fun o ho => ?_)
              conv at ho => rhs; whnf
              subst ho
              refine ⟨?_, fun _ _ _ h => h, Or.inl ⟨by rfl, ?_⟩, ?_⟩
              rotate_left
              · intro w hSw
                try dsimp only at hSw
                try obtain ⟨z1, z2, z3⟩ := hSw
                first | (go_simp; done) | (go_simp; with_reducible rfl)
              try simp only [Act.put, List.setIfInBounds_toArray, List.set_cons_zero, List.set_cons_succ]
              refine wpAnyV_take0 (i := 1) (by kernel_rfl) (by kernel_rfl) (by kernel_rfl) (by kernel_rfl) (by kernel_rfl) ⟨f0, f1, f2⟩ (fun o ho => ?_)
              conv at ho => rhs; whnf
              subst ho
              refine ⟨?_, fun _ _ _ h => h, Or.inl ⟨by rfl, ?_⟩, ?_⟩
              rotate_left
              · intro w hSw
                try dsimp only at hSw
                try obtain ⟨z1, z2, z3⟩ := hSw
                first | (go_simp; done) | (go_simp; with_reducible rfl)
              try simp only [Act.put, List.setIfInBounds_toArray, List.set_cons_zero, List.set_cons_succ]
              refine wpAnyV_one (i := 2) (by kernel_rfl) (by kernel_rfl) (fun o ho K hK => ?_)
              conv at ho => rhs; whnf
              subst ho
              go_simp
              refine (opOk_calls ⟨3, (n : Int), (m : Int)⟩ _).mono ?_
              rintro e w5 ⟨rfl, hx5⟩
              have y0 := hx5.cell f0 nb
              have y1 := hx5.cell f1 nb
              have y2 := hx5.cell f2 nb
              have hbt5 := hx5.keep ((hx4.drew).keep hbt2 nb) nb
              generalize fitsB ⟨3, (n : Int), (m : Int)⟩ = fb at *
              go_simp
              refine hK.out _ _ (Or.inr ⟨y0, y1, y2⟩) ?_
              clear hK K
              try simp only [Act.put, List.setIfInBounds_toArray, List.set_cons_zero, List.set_cons_succ]
              refine wpAnyV_one (i := 3) (by kernel_rfl) (by kernel_rfl) (fun o ho K hK => ?_)
              conv at ho => rhs; whnf
              subst ho
              refine step_storeO bt 3 (n : Int) (m : Int) _ rfl _ _ rfl rfl rfl hbt5 rfl (fun w6 hb6 hx6 => ?_)
              try go_simp
              refine hK.out _ _ (Or.inr ⟨hx6.cell y0 (fun e => hbne e.symm), hx6.cell y1 (fun e => hbne e.symm), hx6.cell y2 (fun e => hbne e.symm)⟩) ?_
              clear hK K
              try simp only [Act.put, List.setIfInBounds_toArray, List.set_cons_zero, List.set_cons_succ]
              refine wpAnyV_one (i := 4) (by kernel_rfl) (by kernel_rfl) (fun o ho K hK => ?_)
              conv at ho => rhs; whnf
              subst ho
              go_simp
              refine hK.out _ _ (Or.inr ⟨hx6.cell y0 (fun e => hbne e.symm), hx6.cell y1 (fun e => hbne e.symm), hx6.cell y2 (fun e => hbne e.symm)⟩) ?_
              clear hK K
              try simp only [Act.put, List.setIfInBounds_toArray, List.set_cons_zero, List.set_cons_succ]
              refine wpAnyV_done (by kernel_rfl) ?_ _
              go_wp2_with fail
              try simp only [Exit.inBlock, Exit.then]
              have q0 : w6.cell? ⟨bt, 0, none⟩ = some (.int .i64 3) := by rw [cell_of_row w6 bt 0 _ _ (0, 0) hb6]; rfl
              have q1 : w6.cell? ⟨bt, 1, none⟩ = some (.int .i64 (n : Int)) := by rw [cell_of_row w6 bt 1 _ _ (0, 0) hb6]; rfl
              have q2 : w6.cell? ⟨bt, 2, none⟩ = some (.int .i64 (m : Int)) := by rw [cell_of_row w6 bt 2 _ _ (0, 0) hb6]; rfl
              refine bodyPost_ret (v := .tuple #[.agg #[.int .i64 3, .int .i64 (n : Int), .int .i64 (m : Int)], .bool fb]) (by rw [results_cell_tmp rfl]; simp [asAddr, go_sem, q0, q1, q2]) rfl ⟨by rw [hR3.out], ?_⟩
              exact (((hx01.trans hext (fun _ _ e => e)).trans hx4.drew (fun _ _ e => e)).trans hx5 (fun _ _ e => e)).trans hx6 (fun i hi e => by omega)
            · have l1 : ((ns.length : Int) == 2) = false := by rw [beq_eq_false_iff_ne]; omega
              have l2 : (ns.length == 2) = false := by rw [beq_eq_false_iff_ne]; omega
              have hpk : pickO B0.data.toList ns = ⟨0, 0, 0⟩ := by unfold pickO; rw [w3, if_neg (fun hh => absurd hh.1 (by decide)), if_neg (fun hh => absurd hh.1 (by decide)), if_neg (fun hh => hl hh.2), if_neg (fun hh => absurd hh.1 (by decide)), if_neg (fun hh => absurd hh.1 (by decide))]
              clear hl
              go_wp2_with fail
              have hR3 : Hid (R = (⟨0, 0, 0⟩, fitsB ⟨0, 0, 0⟩)) := by show _ = _; rw [hR2.out, hpk]
              have hbo : (wr.alloc (.cells #[.int .i64 0, .int .i64 0, .int .i64 0] 68)).heap[wr.heap.size]? = _ := alloc_at wr (.cells #[.int .i64 0, .int .i64 0, .int .i64 0] 68)
              have hx4 : Ext NoB wr (wr.alloc (.cells #[.int .i64 0, .int .i64 0, .int .i64 0] 68)) := ((Ext.refl NoB wr).alloc _)
              generalize (wr.alloc (.cells #[.int .i64 0, .int .i64 0, .int .i64 0] 68)) = w4 at *
              have hbne : bt ≠ wr.heap.size := by have := hext.size; have := hx1.size; omega
              generalize wr.heap.size = bo at *
              have f0 : w4.cell? ⟨bo, 0, none⟩ = some (.int .i64 0) := by rw [cell_of_row w4 bo 0 _ _ (0, 0) hbo]; rfl
              have f1 : w4.cell? ⟨bo, 1, none⟩ = some (.int .i64 0) := by rw [cell_of_row w4 bo 1 _ _ (0, 0) hbo]; rfl
              have f2 : w4.cell? ⟨bo, 2, none⟩ = some (.int .i64 0) := by rw [cell_of_row w4 bo 2 _ _ (0, 0) hbo]; rfl
              refine wp_region_V 9 (fun w' => w'.cell? ⟨bo, 0, none⟩ = some (.int .i64 0) ∧ w'.cell? ⟨bo, 1, none⟩ = some (.int .i64 0) ∧ w'.cell? ⟨bo, 2, none⟩ = some (.int .i64 0)) (by kernel_rfl) ?_
              try simp only [Act.put, List.setIfInBounds_toArray, List.set_cons_zero, List.set_cons_succ]
              refine wpAnyV_take0 (i := 0) (by kernel_rfl) (by kernel_rfl) (by kernel_rfl) (by kernel_rfl) (by kernel_rfl) ⟨f0, f1, f2⟩ (fun o ho => ?_)
              conv at ho => rhs; whnf
              subst ho
              refine ⟨?_, fun _ _ _ h => h, Or.inl ⟨by rfl, ?_⟩, ?_⟩
              rotate_left
              · intro w hSw
                try dsimp only at hSw
                try obtain ⟨z1, z2, z3⟩ := hSw
                first | (go_simp; done) | (go_simp; with_reducible rfl)
              try simp only [Act.put, List.setIfInBounds_toArray, List.set_cons_zero, List.set_cons_succ]
              refine wpAnyV_take0 (i := 1) (by kernel_rfl) (by kernel_rfl) (by kernel_rfl) (by kernel_rfl) (by kernel_rfl) ⟨f0, f1, f2⟩ (fun o ho => ?_)
              conv at ho => rhs; whnf
              subst ho
              refine ⟨?_, fun _ _ _ h => h, Or.inl ⟨by rfl, ?_⟩, ?_⟩
              rotate_left
              · intro w hSw
                try dsimp only at hSw
                try obtain ⟨z1, z2, z3⟩ := hSw
                first | (go_simp; done) | (go_simp; with_reducible rfl)
              try simp only [Act.put, List.setIfInBounds_toArray, List.set_cons_zero, List.set_cons_succ]
              refine wpAnyV_one (i := 2) (by kernel_rfl) (by kernel_rfl) (fun o ho K hK => ?_)
              conv at ho => rhs; whnf
              subst ho
              go_simp
              refine (opOk_calls ⟨0, 0, 0⟩ _).mono ?_
              rintro e w5 ⟨rfl, hx5⟩
              have y0 := hx5.cell f0 nb
              have y1 := hx5.cell f1 nb
              have y2 := hx5.cell f2 nb
              have hbt5 := hx5.keep ((hx4.drew).keep hbt2 nb) nb
              generalize fitsB ⟨0, 0, 0⟩ = fb at *
              go_simp
              refine hK.out _ _ (Or.inr ⟨y0, y1, y2⟩) ?_
              clear hK K
              try simp only [Act.put, List.setIfInBounds_toArray, List.set_cons_zero, List.set_cons_succ]
              refine wpAnyV_one (i := 3) (by kernel_rfl) (by kernel_rfl) (fun o ho K hK => ?_)
              conv at ho => rhs; whnf
              subst ho
              refine step_storeO bt 0 0 0 _ rfl _ _ rfl rfl rfl hbt5 rfl (fun w6 hb6 hx6 => ?_)
              try go_simp
              refine hK.out _ _ (Or.inr ⟨hx6.cell y0 (fun e => hbne e.symm), hx6.cell y1 (fun e => hbne e.symm), hx6.cell y2 (fun e => hbne e.symm)⟩) ?_
              clear hK K
              try simp only [Act.put, List.setIfInBounds_toArray, List.set_cons_zero, List.set_cons_succ]
              refine wpAnyV_one (i := 4) (by kernel_rfl) (by kernel_rfl) (fun o ho K hK => ?_)
              conv at ho => rhs; whnf
              subst ho
              go_simp
              refine hK.out _ _ (Or.inr ⟨hx6.cell y0 (fun e => hbne e.symm), hx6.cell y1 (fun e => hbne e.symm), hx6.cell y2 (fun e => hbne e.symm)⟩) ?_
              clear hK K
              try simp only [Act.put, List.setIfInBounds_toArray, List.set_cons_zero, List.set_cons_succ]
              refine wpAnyV_done (by kernel_rfl) ?_ _
              go_wp2_with fail
              try simp only [Exit.inBlock, Exit.then]
              have q0 : w6.cell? ⟨bt, 0, none⟩ = some (.int .i64 0) := by rw [cell_of_row w6 bt 0 _ _ (0, 0) hb6]; rfl
              have q1 : w6.cell? ⟨bt, 1, none⟩ = some (.int .i64 0) := by rw [cell_of_row w6 bt 1 _ _ (0, 0) hb6]; rfl
              have q2 : w6.cell? ⟨bt, 2, none⟩ = some (.int .i64 0) := by rw [cell_of_row w6 bt 2 _ _ (0, 0) hb6]; rfl
              refine bodyPost_ret (v := .tuple #[.agg #[.int .i64 0, .int .i64 0, .int .i64 0], .bool fb]) (by rw [results_cell_tmp rfl]; simp [asAddr, go_sem, q0, q1, q2]) rfl ⟨by rw [hR3.out], ?_⟩
              exact (((hx01.trans hext (fun _ _ e => e)).trans hx4.drew (fun _ _ e => e)).trans hx5 (fun _ _ e => e)).trans hx6 (fun i hi e => by omega)
          · skip
            by_cases w4 : B0.data.toList = wdOf 4
            · have u1 : (B0.toList == [110, 111, 112]) = false := by rw [ByteArray.toList_eq, w4]; rfl
              have u2 : (B0.toList == [115, 117, 98, 109, 105, 116]) = false := by rw [ByteArray.toList_eq, w4]; rfl
              have u3 : (B0.toList == [97, 102, 116, 101, 114]) = false := by rw [ByteArray.toList_eq, w4]; rfl
              have u4 : (B0.toList == [99, 97, 110, 99, 101, 108]) = true := by rw [ByteArray.toList_eq, w4]; rfl
              have u5 : (B0.toList == [112, 97, 110, 105, 99]) = false := by rw [ByteArray.toList_eq, w4]; rfl
              by_cases hl : ns.length = 1
              · obtain ⟨n, hn⟩ : ∃ n, ns = [n] := by match ns, hl with | [n], _ => exact ⟨n, rfl⟩
                have hpk : pickO B0.data.toList ns = ⟨4, (n : Int), 0⟩ := by rw [w4, hn]; rfl
                obtain rfl := hr2.addr (by omega)
                have g0 : wr.cell? ⟨b2, o2, none⟩ = some (.int .i64 (n : Int)) := hr2.cell natE_len 0 n (by rw [hn]; rfl) 0 _ rfl
                have hb2 := World.block_lt_of_cell? wr _ g0
                dsimp only at hb2
                have g0x : ∀ ob, (wr.alloc ob).cell? ⟨b2, o2, none⟩ = some (.int .i64 (n : Int)) := fun ob => Ext.cell ((Ext.refl NoB wr).alloc ob) g0 nb
                rw [hl]
                have hb2n : b2 ≠ wr.heap.size := by omega
                go_wp2_with fail
                have hz := (Ext.refl NoB wr).alloc (.cells #[.int .i64 0, .int .i64 0, .int .i64 0] 68)
                go_region_held3 (fun w' => w'.cell? ⟨b2, o2, none⟩ = some (.int .i64 (n : Int))) (first | exact g0x _ | (go_keep; done)) (fail)
                go_wp2_with fail
                have hR3 : Hid (R = (⟨4, (n : Int), 0⟩, fitsB ⟨4, (n : Int), 0⟩)) := by show _ = _; rw [hR2.out, hpk]
                have hbo : (wr.alloc (.cells #[.int .i64 4, .int .i64 (n : Int), .int .i64 0] 68)).drew.heap[wr.heap.size]? = _ := alloc_at wr (.cells #[.int .i64 4, .int .i64 (n : Int), .int .i64 0] 68)
                have hx4 : Ext NoB wr (wr.alloc (.cells #[.int .i64 4, .int .i64 (n : Int), .int .i64 0] 68)).drew := ((Ext.refl NoB wr).alloc _).drew
                generalize (wr.alloc (.cells #[.int .i64 4, .int .i64 (n : Int), .int .i64 0] 68)).drew = w4 at *
                have hbne : bt ≠ wr.heap.size := by have := hext.size; have := hx1.size; omega
                generalize wr.heap.size = bo at *
                have f0 : w4.cell? ⟨bo, 0, none⟩ = some (.int .i64 4) := by rw [cell_of_row w4 bo 0 _ _ (0, 0) hbo]; rfl
                have f1 : w4.cell? ⟨bo, 1, none⟩ = some (.int .i64 (n : Int)) := by rw [cell_of_row w4 bo 1 _ _ (0, 0) hbo]; rfl
                have f2 : w4.cell? ⟨bo, 2, none⟩ = some (.int .i64 0) := by rw [cell_of_row w4 bo 2 _ _ (0, 0) hbo]; rfl
                refine wp_region_V 9 (fun w' => w'.cell? ⟨bo, 0, none⟩ = some (.int .i64 4) ∧ w'.cell? ⟨bo, 1, none⟩ = some (.int .i64 (n : Int)) ∧ w'.cell? ⟨bo, 2, none⟩ = some (.int .i64 0)) (by kernel_rfl) ?_
                try simp only [Act.put, List.setIfInBounds_toArray, List.set_cons_zero, List.set_cons_succ]
                refine wpAnyV_take0 (i := 0) (by kernel_rfl) (by kernel_rfl) (by kernel_rfl) (by kernel_rfl) (by kernel_rfl) ⟨f0, f1, f2⟩ (fun o ho => ?_)
                conv at ho => rhs; whnf
                subst ho
                refine ⟨?_, fun _ _ _ h => h, Or.inl ⟨by rfl, ?_⟩, ?_⟩
                rotate_left
                · intro w hSw
                  try dsimp only at hSw
                  try obtain ⟨z1, z2, z3⟩ := hSw
                  first | (go_simp; done) | (go_simp; with_reducible rfl)
                try simp only [Act.put, List.setIfInBounds_toArray, List.set_cons_zero, List.set_cons_succ]
                refine wpAnyV_take0 (i := 1) (by kernel_rfl) (by kernel_rfl) (by kernel_rfl) (by kernel_rfl) (by kernel_rfl) ⟨f0, f1, f2⟩ (fun o ho => ?_)
                conv at ho => rhs; whnf
                subst ho
                refine ⟨?_, fun _ _ _ h => h, Or.inl ⟨by rfl, ?_⟩, ?_⟩
                rotate_left
                · intro w hSw
                  try dsimp only at hSw
                  try obtain ⟨z1, z2, z3⟩ := hSw
                  first | (go_simp; done) | (go_simp; with_reducible rfl)
                try simp only [Act.put, List.setIfInBounds_toArray, List.set_cons_zero, List.set_cons_succ]
                refine wpAnyV_one (i := 2) (by kernel_rfl) (by kernel_rfl) (fun o ho K hK => ?_)
                conv at ho => rhs; whnf
                subst ho
                go_simp
                refine (opOk_calls ⟨4, (n : Int), 0⟩ _).mono ?_
                rintro e w5 ⟨rfl, hx5⟩
                have y0 := hx5.cell f0 nb
                have y1 := hx5.cell f1 nb
                have y2 := hx5.cell f2 nb
                have hbt5 := hx5.keep ((hx4.drew).keep hbt2 nb) nb
                generalize fitsB ⟨4, (n : Int), 0⟩ = fb at *
                go_simp
                refine hK.out _ _ (Or.inr ⟨y0, y1, y2⟩) ?_
                clear hK K
                try simp only [Act.put, List.setIfInBounds_toArray, List.set_cons_zero, List.set_cons_succ]
                refine wpAnyV_one (i := 3) (by kernel_rfl) (by kernel_rfl) (fun o ho K hK => ?_)
                conv at ho => rhs; whnf
                subst ho
                refine step_storeO bt 4 (n : Int) 0 _ rfl _ _ rfl rfl rfl hbt5 rfl (fun w6 hb6 hx6 => ?_)
                try go_simp
                refine hK.out _ _ (Or.inr ⟨hx6.cell y0 (fun e => hbne e.symm), hx6.cell y1 (fun e => hbne e.symm), hx6.cell y2 (fun e => hbne e.symm)⟩) ?_
                clear hK K
                try simp only [Act.put, List.setIfInBounds_toArray, List.set_cons_zero, List.set_cons_succ]
                refine wpAnyV_one (i := 4) (by kernel_rfl) (by kernel_rfl) (fun o ho K hK => ?_)
                conv at ho => rhs; whnf
                subst ho
                go_simp
                refine hK.out _ _ (Or.inr ⟨hx6.cell y0 (fun e => hbne e.symm), hx6.cell y1 (fun e => hbne e.symm), hx6.cell y2 (fun e => hbne e.symm)⟩) ?_
                clear hK K
                try simp only [Act.put, List.setIfInBounds_toArray, List.set_cons_zero, List.set_cons_succ]
                refine wpAnyV_done (by kernel_rfl) ?_ _
                go_wp2_with fail
                try simp only [Exit.inBlock, Exit.then]
                have q0 : w6.cell? ⟨bt, 0, none⟩ = some (.int .i64 4) := by rw [cell_of_row w6 bt 0 _ _ (0, 0) hb6]; rfl
                have q1 : w6.cell? ⟨bt, 1, none⟩ = some (.int .i64 (n : Int)) := by rw [cell_of_row w6 bt 1 _ _ (0, 0) hb6]; rfl
                have q2 : w6.cell? ⟨bt, 2, none⟩ = some (.int .i64 0) := by rw [cell_of_row w6 bt 2 _ _ (0, 0) hb6]; rfl
                refine bodyPost_ret (v := .tuple #[.agg #[.int .i64 4, .int .i64 (n : Int), .int .i64 0], .bool fb]) (by rw [results_cell_tmp rfl]; simp [asAddr, go_sem, q0, q1, q2]) rfl ⟨by rw [hR3.out], ?_⟩
                exact (((hx01.trans hext (fun _ _ e => e)).trans hx4.drew (fun _ _ e => e)).trans hx5 (fun _ _ e => e)).trans hx6 (fun i hi e => by omega)
              · have l1 : ((ns.length : Int) == 1) = false := by rw [beq_eq_false_iff_ne]; omega
                have l2 : (ns.length == 1) = false := by rw [beq_eq_false_iff_ne]; omega
                have hpk : pickO B0.data.toList ns = ⟨0, 0, 0⟩ := by unfold pickO; rw [w4, if_neg (fun hh => absurd hh.1 (by decide)), if_neg (fun hh => absurd hh.1 (by decide)), if_neg (fun hh => absurd hh.1 (by decide)), if_neg (fun hh => hl hh.2), if_neg (fun hh => absurd hh.1 (by decide))]
                clear hl
                go_wp2_with fail
                have hR3 : Hid (R = (⟨0, 0, 0⟩, fitsB ⟨0, 0, 0⟩)) := by show _ = _; rw [hR2.out, hpk]
                have hbo : (wr.alloc (.cells #[.int .i64 0, .int .i64 0, .int .i64 0] 68)).heap[wr.heap.size]? = _ := alloc_at wr (.cells #[.int .i64 0, .int .i64 0, .int .i64 0] 68)
                have hx4 : Ext NoB wr (wr.alloc (.cells #[.int .i64 0, .int .i64 0, .int .i64 0] 68)) := ((Ext.refl NoB wr).alloc _)
                generalize (wr.alloc (.cells #[.int .i64 0, .int .i64 0, .int .i64 0] 68)) = w4 at *
                have hbne : bt ≠ wr.heap.size := by have := hext.size; have := hx1.size; omega
                generalize wr.heap.size = bo at *
                have f0 : w4.cell? ⟨bo, 0, none⟩ = some (.int .i64 0) := by rw [cell_of_row w4 bo 0 _ _ (0, 0) hbo]; rfl
                have f1 : w4.cell? ⟨bo, 1, none⟩ = some (.int .i64 0) := by rw [cell_of_row w4 bo 1 _ _ (0, 0) hbo]; rfl
                have f2 : w4.cell? ⟨bo, 2, none⟩ = some (.int .i64 0) := by rw [cell_of_row w4 bo 2 _ _ (0, 0) hbo]; rfl
                refine wp_region_V 9 (fun w' => w'.cell? ⟨bo, 0, none⟩ = some (.int .i64 0) ∧ w'.cell? ⟨bo, 1, none⟩ = some (.int .i64 0) ∧ w'.cell? ⟨bo, 2, none⟩ = some (.int .i64 0)) (by kernel_rfl) ?_
                try simp only [Act.put, List.setIfInBounds_toArray, List.set_cons_zero, List.set_cons_succ]
                refine wpAnyV_take0 (i := 0) (by kernel_rfl) (by kernel_rfl) (by kernel_rfl) (by kernel_rfl) (by kernel_rfl) ⟨f0, f1, f2⟩ (fun o ho => ?_)
                conv at ho => rhs; whnf
                subst ho
                refine ⟨?_, fun _ _ _ h => h, Or.inl ⟨by rfl, ?_⟩, ?_⟩
                rotate_left
                · intro w hSw
                  try dsimp only at hSw
                  try obtain ⟨z1, z2, z3⟩ := hSw
                  first | (go_simp; done) | (go_simp; with_reducible rfl)
                try simp only [Act.put, List.setIfInBounds_toArray, List.set_cons_zero, List.set_cons_succ]
                refine wpAnyV_take0 (i := 1) (by kernel_rfl) (by kernel_rfl) (by kernel_rfl) (by kernel_rfl) (by kernel_rfl) ⟨f0, f1, f2⟩ (fun o ho => ?_)
                conv at ho => rhs; whnf
                subst ho
                refine ⟨?_, fun _ _ _ h => h, Or.inl ⟨by rfl, ?_⟩, ?_⟩
                rotate_left
                · intro w hSw
                  try dsimp only at hSw
                  try obtain ⟨z1, z2, z3⟩ := hSw
                  first | (go_simp; done) | (go_simp; with_reducible rfl)
                try simp only [Act.put, List.setIfInBounds_toArray, List.set_cons_zero, List.set_cons_succ]
                refine wpAnyV_one (i := 2) (by kernel_rfl) (by kernel_rfl) (fun o ho K hK => ?_)
                conv at ho => rhs; whnf
                subst ho
                go_simp
                refine (opOk_calls ⟨0, 0, 0⟩ _).mono ?_
                rintro e w5 ⟨rfl, hx5⟩
                have y0 := hx5.cell f0 nb
                have y1 := hx5.cell f1 nb
                have y2 := hx5.cell f2 nb
                have hbt5 := hx5.keep ((hx4.drew).keep hbt2 nb) nb
                generalize fitsB ⟨0, 0, 0⟩ = fb at *
                go_simp
                refine hK.out _ _ (Or.inr ⟨y0, y1, y2⟩) ?_
                clear hK K
                try simp only [Act.put, List.setIfInBounds_toArray, List.set_cons_zero, List.set_cons_succ]
                refine wpAnyV_one (i := 3) (by kernel_rfl) (by kernel_rfl) (fun o ho K hK => ?_)
                conv at ho => rhs; whnf
                subst ho
                refine step_storeO bt 0 0 0 _ rfl _ _ rfl rfl rfl hbt5 rfl (fun w6 hb6 hx6 => ?_)
                try go_simp
                refine hK.out _ _ (Or.inr ⟨hx6.cell y0 (fun e => hbne e.symm), hx6.cell y1 (fun e => hbne e.symm), hx6.cell y2 (fun e => hbne e.symm)⟩) ?_
                clear hK K
                try simp only [Act.put, List.setIfInBounds_toArray, List.set_cons_zero, List.set_cons_succ]
                refine wpAnyV_one (i := 4) (by kernel_rfl) (by kernel_rfl) (fun o ho K hK => ?_)
                conv at ho => rhs; whnf
                subst ho
                go_simp
                refine hK.out _ _ (Or.inr ⟨hx6.cell y0 (fun e => hbne e.symm), hx6.cell y1 (fun e => hbne e.symm), hx6.cell y2 (fun e => hbne e.symm)⟩) ?_
                clear hK K
                try simp only [Act.put, List.setIfInBounds_toArray, List.set_cons_zero, List.set_cons_succ]
                refine wpAnyV_done (by kernel_rfl) ?_ _
                go_wp2_with fail
                try simp only [Exit.inBlock, Exit.then]
                have q0 : w6.cell? ⟨bt, 0, none⟩ = some (.int .i64 0) := by rw [cell_of_row w6 bt 0 _ _ (0, 0) hb6]; rfl
                have q1 : w6.cell? ⟨bt, 1, none⟩ = some (.int .i64 0) := by rw [cell_of_row w6 bt 1 _ _ (0, 0) hb6]; rfl
                have q2 : w6.cell? ⟨bt, 2, none⟩ = some (.int .i64 0) := by rw [cell_of_row w6 bt 2 _ _ (0, 0) hb6]; rfl
                refine bodyPost_ret (v := .tuple #[.agg #[.int .i64 0, .int .i64 0, .int .i64 0], .bool fb]) (by rw [results_cell_tmp rfl]; simp [asAddr, go_sem, q0, q1, q2]) rfl ⟨by rw [hR3.out], ?_⟩
                exact (((hx01.trans hext (fun _ _ e => e)).trans hx4.drew (fun _ _ e => e)).trans hx5 (fun _ _ e => e)).trans hx6 (fun i hi e => by omega)
            · skip
              by_cases w5 : B0.data.toList = wdOf 5
              · have u1 : (B0.toList == [110, 111, 112]) = false := by rw [ByteArray.toList_eq, w5]; rfl
                have u2 : (B0.toList == [115, 117, 98, 109, 105, 116]) = false := by rw [ByteArray.toList_eq, w5]; rfl
                have u3 : (B0.toList == [97, 102, 116, 101, 114]) = false := by rw [ByteArray.toList_eq, w5]; rfl
                have u4 : (B0.toList == [99, 97, 110, 99, 101, 108]) = false := by rw [ByteArray.toList_eq, w5]; rfl
                have u5 : (B0.toList == [112, 97, 110, 105, 99]) = true := by rw [ByteArray.toList_eq, w5]; rfl
                by_cases hl : ns.length = 0
                · have hpk : pickO B0.data.toList ns = ⟨5, 0, 0⟩ := by rw [w5, List.eq_nil_of_length_eq_zero hl]; rfl
                  rw [hl]
                  go_wp2_with fail
                  have hR3 : Hid (R = (⟨5, 0, 0⟩, fitsB ⟨5, 0, 0⟩)) := by show _ = _; rw [hR2.out, hpk]
                  have hbo : (wr.alloc (.cells #[.int .i64 5, .int .i64 0, .int .i64 0] 68)).heap[wr.heap.size]? = _ := alloc_at wr (.cells #[.int .i64 5, .int .i64 0, .int .i64 0] 68)
                  have hx4 : Ext NoB wr (wr.alloc (.cells #[.int .i64 5, .int .i64 0, .int .i64 0] 68)) := ((Ext.refl NoB wr).alloc _)
                  generalize (wr.alloc (.cells #[.int .i64 5, .int .i64 0, .int .i64 0] 68)) = w4 at *
                  have hbne : bt ≠ wr.heap.size := by have := hext.size; have := hx1.size; omega
                  generalize wr.heap.size = bo at *
                  have f0 : w4.cell? ⟨bo, 0, none⟩ = some (.int .i64 5) := by rw [cell_of_row w4 bo 0 _ _ (0, 0) hbo]; rfl
                  have f1 : w4.cell? ⟨bo, 1, none⟩ = some (.int .i64 0) := by rw [cell_of_row w4 bo 1 _ _ (0, 0) hbo]; rfl
                  have f2 : w4.cell? ⟨bo, 2, none⟩ = some (.int .i64 0) := by rw [cell_of_row w4 bo 2 _ _ (0, 0) hbo]; rfl
                  refine wp_region_V 9 (fun w' => w'.cell? ⟨bo, 0, none⟩ = some (.int .i64 5) ∧ w'.cell? ⟨bo, 1, none⟩ = some (.int .i64 0) ∧ w'.cell? ⟨bo, 2, none⟩ = some (.int .i64 0)) (by kernel_rfl) ?_
                  try simp only [Act.put, List.setIfInBounds_toArray, List.set_cons_zero, List.set_cons_succ]
                  refine wpAnyV_take0 (i := 0) (by kernel_rfl) (by kernel_rfl) (by kernel_rfl) (by kernel_rfl) (by kernel_rfl) ⟨f0, f1, f2⟩ (fun o ho => ?_)
                  conv at ho => rhs; whnf
                  subst ho
                  refine ⟨?_, fun _ _ _ h => h, Or.inl ⟨by rfl, ?_⟩, ?_⟩
                  rotate_left
                  · intro w hSw
                    try dsimp only at hSw
                    try obtain ⟨z1, z2, z3⟩ := hSw
                    first | (go_simp; done) | (go_simp; with_reducible rfl)
                  try simp only [Act.put, List.setIfInBounds_toArray, List.set_cons_zero, List.set_cons_succ]
                  refine wpAnyV_take0 (i := 1) (by kernel_rfl) (by kernel_rfl) (by kernel_rfl) (by kernel_rfl) (by kernel_rfl) ⟨f0, f1, f2⟩ (fun o ho => ?_)
                  conv at ho => rhs; whnf
                  subst ho
                  refine ⟨?_, fun _ _ _ h => h, Or.inl ⟨by rfl, ?_⟩, ?_⟩
                  rotate_left
                  · intro w hSw
                    try dsimp only at hSw
                    try obtain ⟨z1, z2, z3⟩ := hSw
                    first | (go_simp; done) | (go_simp; with_reducible rfl)
                  try simp only [Act.put, List.setIfInBounds_toArray, List.set_cons_zero, List.set_cons_succ]
                  refine wpAnyV_one (i := 2) (by kernel_rfl) (by kernel_rfl) (fun o ho K hK => ?_)
                  conv at ho => rhs; whnf
                  subst ho
                  go_simp
                  refine (opOk_calls ⟨5, 0, 0⟩ _).mono ?_
                  rintro e w5 ⟨rfl, hx5⟩
                  have y0 := hx5.cell f0 nb
                  have y1 := hx5.cell f1 nb
                  have y2 := hx5.cell f2 nb
                  have hbt5 := hx5.keep ((hx4.drew).keep hbt2 nb) nb
                  generalize fitsB ⟨5, 0, 0⟩ = fb at *
                  go_simp
                  refine hK.out _ _ (Or.inr ⟨y0, y1, y2⟩) ?_
                  clear hK K
                  try simp only [Act.put, List.setIfInBounds_toArray, List.set_cons_zero, List.set_cons_succ]
                  refine wpAnyV_one (i := 3) (by kernel_rfl) (by kernel_rfl) (fun o ho K hK => ?_)
                  conv at ho => rhs; whnf
                  subst ho
                  refine step_storeO bt 5 0 0 _ rfl _ _ rfl rfl rfl hbt5 rfl (fun w6 hb6 hx6 => ?_)
                  try go_simp
                  refine hK.out _ _ (Or.inr ⟨hx6.cell y0 (fun e => hbne e.symm), hx6.cell y1 (fun e => hbne e.symm), hx6.cell y2 (fun e => hbne e.symm)⟩) ?_
                  clear hK K
                  try simp only [Act.put, List.setIfInBounds_toArray, List.set_cons_zero, List.set_cons_succ]
                  refine wpAnyV_one (i := 4) (by kernel_rfl) (by kernel_rfl) (fun o ho K hK => ?_)
                  conv at ho => rhs; whnf
                  subst ho
                  go_simp
                  refine hK.out _ _ (Or.inr ⟨hx6.cell y0 (fun e => hbne e.symm), hx6.cell y1 (fun e => hbne e.symm), hx6.cell y2 (fun e => hbne e.symm)⟩) ?_
                  clear hK K
                  try simp only [Act.put, List.setIfInBounds_toArray, List.set_cons_zero, List.set_cons_succ]
                  refine wpAnyV_done (by kernel_rfl) ?_ _
                  go_wp2_with fail
                  try simp only [Exit.inBlock, Exit.then]
                  have q0 : w6.cell? ⟨bt, 0, none⟩ = some (.int .i64 5) := by rw [cell_of_row w6 bt 0 _ _ (0, 0) hb6]; rfl
                  have q1 : w6.cell? ⟨bt, 1, none⟩ = some (.int .i64 0) := by rw [cell_of_row w6 bt 1 _ _ (0, 0) hb6]; rfl
                  have q2 : w6.cell? ⟨bt, 2, none⟩ = some (.int .i64 0) := by rw [cell_of_row w6 bt 2 _ _ (0, 0) hb6]; rfl
                  refine bodyPost_ret (v := .tuple #[.agg #[.int .i64 5, .int .i64 0, .int .i64 0], .bool fb]) (by rw [results_cell_tmp rfl]; simp [asAddr, go_sem, q0, q1, q2]) rfl ⟨by rw [hR3.out], ?_⟩
                  exact (((hx01.trans hext (fun _ _ e => e)).trans hx4.drew (fun _ _ e => e)).trans hx5 (fun _ _ e => e)).trans hx6 (fun i hi e => by omega)
                · have l1 : ((ns.length : Int) == 0) = false := by rw [beq_eq_false_iff_ne]; omega
                  have l2 : (ns.length == 0) = false := by rw [beq_eq_false_iff_ne]; omega
                  have hpk : pickO B0.data.toList ns = ⟨0, 0, 0⟩ := by unfold pickO; rw [w5, if_neg (fun hh => absurd hh.1 (by decide)), if_neg (fun hh => absurd hh.1 (by decide)), if_neg (fun hh => absurd hh.1 (by decide)), if_neg (fun hh => absurd hh.1 (by decide)), if_neg (fun hh => hl hh.2)]
                  clear hl
                  go_wp2_with fail
                  have hR3 : Hid (R = (⟨0, 0, 0⟩, fitsB ⟨0, 0, 0⟩)) := by show _ = _; rw [hR2.out, hpk]
                  have hbo : (wr.alloc (.cells #[.int .i64 0, .int .i64 0, .int .i64 0] 68)).heap[wr.heap.size]? = _ := alloc_at wr (.cells #[.int .i64 0, .int .i64 0, .int .i64 0] 68)
                  have hx4 : Ext NoB wr (wr.alloc (.cells #[.int .i64 0, .int .i64 0, .int .i64 0] 68)) := ((Ext.refl NoB wr).alloc _)
                  generalize (wr.alloc (.cells #[.int .i64 0, .int .i64 0, .int .i64 0] 68)) = w4 at *
                  have hbne : bt ≠ wr.heap.size := by have := hext.size; have := hx1.size; omega
                  generalize wr.heap.size = bo at *
                  have f0 : w4.cell? ⟨bo, 0, none⟩ = some (.int .i64 0) := by rw [cell_of_row w4 bo 0 _ _ (0, 0) hbo]; rfl
                  have f1 : w4.cell? ⟨bo, 1, none⟩ = some (.int .i64 0) := by rw [cell_of_row w4 bo 1 _ _ (0, 0) hbo]; rfl
                  have f2 : w4.cell? ⟨bo, 2, none⟩ = some (.int .i64 0) := by rw [cell_of_row w4 bo 2 _ _ (0, 0) hbo]; rfl
                  refine wp_region_V 9 (fun w' => w'.cell? ⟨bo, 0, none⟩ = some (.int .i64 0) ∧ w'.cell? ⟨bo, 1, none⟩ = some (.int .i64 0) ∧ w'.cell? ⟨bo, 2, none⟩ = some (.int .i64 0)) (by kernel_rfl) ?_
                  try simp only [Act.put, List.setIfInBounds_toArray, List.set_cons_zero, List.set_cons_succ]
                  refine wpAnyV_take0 (i := 0) (by kernel_rfl) (by kernel_rfl) (by kernel_rfl) (by kernel_rfl) (by kernel_rfl) ⟨f0, f1, f2⟩ (fun o ho => ?_)
                  conv at ho => rhs; whnf
                  subst ho
                  refine ⟨?_, fun _ _ _ h => h, Or.inl ⟨by rfl, ?_⟩, ?_⟩
                  rotate_left
                  · intro w hSw
                    try dsimp only at hSw
                    try obtain ⟨z1, z2, z3⟩ := hSw
                    first | (go_simp; done) | (go_simp; with_reducible rfl)
                  try simp only [Act.put, List.setIfInBounds_toArray, List.set_cons_zero, List.set_cons_succ]
                  refine wpAnyV_take0 (i := 1) (by kernel_rfl) (by kernel_rfl) (by kernel_rfl) (by kernel_rfl) (by kernel_rfl) ⟨f0, f1, f2⟩ (fun o ho => ?_)
                  conv at ho => rhs; whnf
                  subst ho
                  refine ⟨?_, fun _ _ _ h => h, Or.inl ⟨by rfl, ?_⟩, ?_⟩
                  rotate_left
                  · intro w hSw
                    try dsimp only at hSw
                    try obtain ⟨z1, z2, z3⟩ := hSw
                    first | (go_simp; done) | (go_simp; with_reducible rfl)
                  try simp only [Act.put, List.setIfInBounds_toArray, List.set_cons_zero, List.set_cons_succ]
                  refine wpAnyV_one (i := 2) (by kernel_rfl) (by kernel_rfl) (fun o ho K hK => ?_)
                  conv at ho => rhs; whnf
                  subst ho
                  go_simp
                  refine (opOk_calls ⟨0, 0, 0⟩ _).mono ?_
                  rintro e w5 ⟨rfl, hx5⟩
                  have y0 := hx5.cell f0 nb
                  have y1 := hx5.cell f1 nb
                  have y2 := hx5.cell f2 nb
                  have hbt5 := hx5.keep ((hx4.drew).keep hbt2 nb) nb
                  generalize fitsB ⟨0, 0, 0⟩ = fb at *
                  go_simp
                  refine hK.out _ _ (Or.inr ⟨y0, y1, y2⟩) ?_
                  clear hK K
                  try simp only [Act.put, List.setIfInBounds_toArray, List.set_cons_zero, List.set_cons_succ]
                  refine wpAnyV_one (i := 3) (by kernel_rfl) (by kernel_rfl) (fun o ho K hK => ?_)
                  conv at ho => rhs; whnf
                  subst ho
                  refine step_storeO bt 0 0 0 _ rfl _ _ rfl rfl rfl hbt5 rfl (fun w6 hb6 hx6 => ?_)
                  try go_simp
                  refine hK.out _ _ (Or.inr ⟨hx6.cell y0 (fun e => hbne e.symm), hx6.cell y1 (fun e => hbne e.symm), hx6.cell y2 (fun e => hbne e.symm)⟩) ?_
                  clear hK K
                  try simp only [Act.put, List.setIfInBounds_toArray, List.set_cons_zero, List.set_cons_succ]
                  refine wpAnyV_one (i := 4) (by kernel_rfl) (by kernel_rfl) (fun o ho K hK => ?_)
                  conv at ho => rhs; whnf
                  subst ho
                  go_simp
                  refine hK.out _ _ (Or.inr ⟨hx6.cell y0 (fun e => hbne e.symm), hx6.cell y1 (fun e => hbne e.symm), hx6.cell y2 (fun e => hbne e.symm)⟩) ?_
                  clear hK K
                  try simp only [Act.put, List.setIfInBounds_toArray, List.set_cons_zero, List.set_cons_succ]
                  refine wpAnyV_done (by kernel_rfl) ?_ _
                  go_wp2_with fail
                  try simp only [Exit.inBlock, Exit.then]
                  have q0 : w6.cell? ⟨bt, 0, none⟩ = some (.int .i64 0) := by rw [cell_of_row w6 bt 0 _ _ (0, 0) hb6]; rfl
                  have q1 : w6.cell? ⟨bt, 1, none⟩ = some (.int .i64 0) := by rw [cell_of_row w6 bt 1 _ _ (0, 0) hb6]; rfl
                  have q2 : w6.cell? ⟨bt, 2, none⟩ = some (.int .i64 0) := by rw [cell_of_row w6 bt 2 _ _ (0, 0) hb6]; rfl
                  refine bodyPost_ret (v := .tuple #[.agg #[.int .i64 0, .int .i64 0, .int .i64 0], .bool fb]) (by rw [results_cell_tmp rfl]; simp [asAddr, go_sem, q0, q1, q2]) rfl ⟨by rw [hR3.out], ?_⟩
                  exact (((hx01.trans hext (fun _ _ e => e)).trans hx4.drew (fun _ _ e => e)).trans hx5 (fun _ _ e => e)).trans hx6 (fun i hi e => by omega)
              · skip
                have u1 : (B0.toList == [110, 111, 112]) = false := by rw [ByteArray.toList_eq, beq_eq_false_iff_ne]; exact w1
                have u2 : (B0.toList == [115, 117, 98, 109, 105, 116]) = false := by rw [ByteArray.toList_eq, beq_eq_false_iff_ne]; exact w2
                have u3 : (B0.toList == [97, 102, 116, 101, 114]) = false := by rw [ByteArray.toList_eq, beq_eq_false_iff_ne]; exact w3
                have u4 : (B0.toList == [99, 97, 110, 99, 101, 108]) = false := by rw [ByteArray.toList_eq, beq_eq_false_iff_ne]; exact w4
                have u5 : (B0.toList == [112, 97, 110, 105, 99]) = false := by rw [ByteArray.toList_eq, beq_eq_false_iff_ne]; exact w5
                have hpk : pickO B0.data.toList ns = ⟨0, 0, 0⟩ := by unfold pickO; rw [if_neg (fun hh => w1 hh.1), if_neg (fun hh => w2 hh.1), if_neg (fun hh => w3 hh.1), if_neg (fun hh => w4 hh.1), if_neg (fun hh => w5 hh.1)]
                clear w1 w2 w3 w4 w5
                go_wp2_with fail
                have hR3 : Hid (R = (⟨0, 0, 0⟩, fitsB ⟨0, 0, 0⟩)) := by show _ = _; rw [hR2.out, hpk]
                have hbo : (wr.alloc (.cells #[.int .i64 0, .int .i64 0, .int .i64 0] 68)).heap[wr.heap.size]? = _ := alloc_at wr (.cells #[.int .i64 0, .int .i64 0, .int .i64 0] 68)
                have hx4 : Ext NoB wr (wr.alloc (.cells #[.int .i64 0, .int .i64 0, .int .i64 0] 68)) := ((Ext.refl NoB wr).alloc _)
                generalize (wr.alloc (.cells #[.int .i64 0, .int .i64 0, .int .i64 0] 68)) = w4 at *
                have hbne : bt ≠ wr.heap.size := by have := hext.size; have := hx1.size; omega
                generalize wr.heap.size = bo at *
                have f0 : w4.cell? ⟨bo, 0, none⟩ = some (.int .i64 0) := by rw [cell_of_row w4 bo 0 _ _ (0, 0) hbo]; rfl
                have f1 : w4.cell? ⟨bo, 1, none⟩ = some (.int .i64 0) := by rw [cell_of_row w4 bo 1 _ _ (0, 0) hbo]; rfl
                have f2 : w4.cell? ⟨bo, 2, none⟩ = some (.int .i64 0) := by rw [cell_of_row w4 bo 2 _ _ (0, 0) hbo]; rfl
                refine wp_region_V 9 (fun w' => w'.cell? ⟨bo, 0, none⟩ = some (.int .i64 0) ∧ w'.cell? ⟨bo, 1, none⟩ = some (.int .i64 0) ∧ w'.cell? ⟨bo, 2, none⟩ = some (.int .i64 0)) (by kernel_rfl) ?_
                try simp only [Act.put, List.setIfInBounds_toArray, List.set_cons_zero, List.set_cons_succ]
                refine wpAnyV_take0 (i := 0) (by kernel_rfl) (by kernel_rfl) (by kernel_rfl) (by kernel_rfl) (by kernel_rfl) ⟨f0, f1, f2⟩ (fun o ho => ?_)
                conv at ho => rhs; whnf
                subst ho
                refine ⟨?_, fun _ _ _ h => h, Or.inl ⟨by rfl, ?_⟩, ?_⟩
                rotate_left
                · intro w hSw
                  try dsimp only at hSw
                  try obtain ⟨z1, z2, z3⟩ := hSw
                  first | (go_simp; done) | (go_simp; with_reducible rfl)
                try simp only [Act.put, List.setIfInBounds_toArray, List.set_cons_zero, List.set_cons_succ]
                refine wpAnyV_take0 (i := 1) (by kernel_rfl) (by kernel_rfl) (by kernel_rfl) (by kernel_rfl) (by kernel_rfl) ⟨f0, f1, f2⟩ (fun o ho => ?_)
                conv at ho => rhs; whnf
                subst ho
                refine ⟨?_, fun _ _ _ h => h, Or.inl ⟨by rfl, ?_⟩, ?_⟩
                rotate_left
                · intro w hSw
                  try dsimp only at hSw
                  try obtain ⟨z1, z2, z3⟩ := hSw
                  first | (go_simp; done) | (go_simp; with_reducible rfl)
                try simp only [Act.put, List.setIfInBounds_toArray, List.set_cons_zero, List.set_cons_succ]
                refine wpAnyV_one (i := 2) (by kernel_rfl) (by kernel_rfl) (fun o ho K hK => ?_)
                conv at ho => rhs; whnf
                subst ho
                go_simp
                refine (opOk_calls ⟨0, 0, 0⟩ _).mono ?_
                rintro e w5 ⟨rfl, hx5⟩
                have y0 := hx5.cell f0 nb
                have y1 := hx5.cell f1 nb
                have y2 := hx5.cell f2 nb
                have hbt5 := hx5.keep ((hx4.drew).keep hbt2 nb) nb
                generalize fitsB ⟨0, 0, 0⟩ = fb at *
                go_simp
                refine hK.out _ _ (Or.inr ⟨y0, y1, y2⟩) ?_
                clear hK K
                try simp only [Act.put, List.setIfInBounds_toArray, List.set_cons_zero, List.set_cons_succ]
                refine wpAnyV_one (i := 3) (by kernel_rfl) (by kernel_rfl) (fun o ho K hK => ?_)
                conv at ho => rhs; whnf
                subst ho
                refine step_storeO bt 0 0 0 _ rfl _ _ rfl rfl rfl hbt5 rfl (fun w6 hb6 hx6 => ?_)
                try go_simp
                refine hK.out _ _ (Or.inr ⟨hx6.cell y0 (fun e => hbne e.symm), hx6.cell y1 (fun e => hbne e.symm), hx6.cell y2 (fun e => hbne e.symm)⟩) ?_
                clear hK K
                try simp only [Act.put, List.setIfInBounds_toArray, List.set_cons_zero, List.set_cons_succ]
                refine wpAnyV_one (i := 4) (by kernel_rfl) (by kernel_rfl) (fun o ho K hK => ?_)
                conv at ho => rhs; whnf
                subst ho
                go_simp
                refine hK.out _ _ (Or.inr ⟨hx6.cell y0 (fun e => hbne e.symm), hx6.cell y1 (fun e => hbne e.symm), hx6.cell y2 (fun e => hbne e.symm)⟩) ?_
                clear hK K
                try simp only [Act.put, List.setIfInBounds_toArray, List.set_cons_zero, List.set_cons_succ]
                refine wpAnyV_done (by kernel_rfl) ?_ _
                go_wp2_with fail
                try simp only [Exit.inBlock, Exit.then]
                have q0 : w6.cell? ⟨bt, 0, none⟩ = some (.int .i64 0) := by rw [cell_of_row w6 bt 0 _ _ (0, 0) hb6]; rfl
                have q1 : w6.cell? ⟨bt, 1, none⟩ = some (.int .i64 0) := by rw [cell_of_row w6 bt 1 _ _ (0, 0) hb6]; rfl
                have q2 : w6.cell? ⟨bt, 2, none⟩ = some (.int .i64 0) := by rw [cell_of_row w6 bt 2 _ _ (0, 0) hb6]; rfl
                refine bodyPost_ret (v := .tuple #[.agg #[.int .i64 0, .int .i64 0, .int .i64 0], .bool fb]) (by rw [results_cell_tmp rfl]; simp [asAddr, go_sem, q0, q1, q2]) rfl ⟨by rw [hR3.out], ?_⟩
                exact (((hx01.trans hext (fun _ _ e => e)).trans hx4.drew (fun _ _ e => e)).trans hx5 (fun _ _ e => e)).trans hx6 (fun i hi e => by omega)
end Go.Proofs.YtgiimmiandhkhaaGreatDoor
