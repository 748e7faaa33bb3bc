/- The bodies: the reference's BodyOf, walked; BodyParses. -/
import Derived.Test.YtgiimmiandhkhaaGreatDoorProg
import Derived.Test.YtgiimmiandhkhaaGreatDoorBoK
namespace Go.Proofs.YtgiimmiandhkhaaGreatDoor
open Go.RowKit
set_option linter.unusedSimpArgs false
set_option linter.unusedVariables false

theorem allR_snoc : ∀ (L : List (List UInt8)) (l : List BOp) (x : List UInt8), allR L = some l → (opRV x).2 = true → allR (L ++ [x]) = some (l ++ [(opRV x).1])
  | [], l, x, h, hx => by simp [allR] at h; subst h; simp [allR, hx]
  | y :: r, l, x, h, hx => by
    unfold allR at h
    split at h
    · rename_i hy
      cases hr : allR r with
      | none => rw [hr] at h; simp at h
      | some l' =>
        rw [hr] at h
        simp only [Option.map_some, Option.some.injEq] at h
        subst h
        rw [List.cons_append, allR, if_pos hy, allR_snoc r l' x hr hx]; rfl
    · cases h
theorem allR_bad : ∀ (L : List (List UInt8)) (x : List UInt8) (t : List (List UInt8)), (opRV x).2 = false → allR (L ++ x :: t) = none
  | [], x, t, hx => by simp [allR, hx]
  | y :: r, x, t, hx => by
    rw [List.cons_append, allR, allR_bad r x t hx]
    split <;> rfl
theorem allR_len : ∀ (L : List (List UInt8)) (l : List BOp), allR L = some l → l.length = L.length
  | L, l, h => by
    have := congrArg List.length (allR_told L l h).2
    simpa using this

set_option maxRecDepth 20000 in
set_option maxHeartbeats 8000000 in
theorem bodyOf_calls (s : ByteArray) (w : World) : Calls Tryz.prog 27 #[.string s] w fun e w' => ∃ v g, e = .returned (.tuple #[v, .int .i64 (bodyR s.data.toList).2]) ∧ SlO w' 68 3 opB g v (bodyR s.data.toList).1 ∧ Ext NoB w w' ∧ (∀ q, g = some q → w.heap.size ≤ q) := by
  generalize hRd : bodyR s.data.toList = R
  have hRd := Lib.hid hRd
  have hsz : s.data.toList.length = s.size := by rw [Array.length_toList]; rfl
  by_cases h400 : 400 < s.size
  · have t0 : decide (400 < s.size) = true := by simp [h400]
    have t0' : decide ((400 : Int) < s.size) = true := by simp; omega
    have hv : Hid (R = ([], 2)) := by show _ = _; rw [← hRd.out]; unfold bodyR; rw [if_pos (by omega)]
    go_enter Tryz.func27, Tryz.ntmps27
    go_wp2_with fail
    go_ret2
    exact ⟨_, none, by rw [hv.out]; rfl, by rw [hv.out]; exact SlO.nil _ _ _ _, Ext.refl _ _, by simp⟩
  · have t0 : decide (400 < s.size) = false := by simp; omega
    have t0' : decide ((400 : Int) < s.size) = false := by simp; omega
    by_cases hd : s.data.toList = [45]
    · have hv : Hid (R = ([], 0)) := by show _ = _; rw [← hRd.out]; unfold bodyR; rw [if_neg (by omega), if_pos hd]
      have t1 : (s.toList == [45]) = true := by rw [ByteArray.toList_eq, hd]; rfl
      go_enter Tryz.func27, Tryz.ntmps27
      go_wp2_with fail
      go_ret2
      exact ⟨_, none, by rw [hv.out]; rfl, by rw [hv.out]; exact SlO.nil _ _ _ _, Ext.refl _ _, by simp⟩
    · have t1 : (s.toList == [45]) = false := by rw [ByteArray.toList_eq, beq_eq_false_iff_ne]; exact hd
      have hv : Hid (R = match allR (spl 59 s.data.toList) with | none => ([], 3) | some l => if l.length ≤ 16 then (l, 0) else ([], 3)) := by
        show _ = _
        rw [← hRd.out]
        unfold bodyR
        rw [if_neg (by omega), if_neg hd]
        rfl
      clear hRd hd
      go_enter Tryz.func27, Tryz.ntmps27
      go_wp2_with fail
      refine (wordsR_calls s 59 (by omega) w).mono ?_
      rintro e w1 ⟨v, g, B, rfl, hBm, hO, hx1, hg⟩
      obtain ⟨A, c, b, o, rfl, hr, hgB⟩ := hO.read
      have hBm' := Lib.hid hBm
      have hne : 0 < B.length := by
        refine Nat.pos_of_ne_zero fun e => spl_ne 59 s.data.toList ?_
        rw [← hBm, List.eq_nil_of_length_eq_zero e]; rfl
      obtain rfl := hr.addr hne
      have hmx := hr.max
      have hle := hr.le
      unfold maxLen at hmx
      have hBs : Hid (∀ x ∈ B, x.size ≤ 1000000) := by
        show ∀ x ∈ B, _
        intro x hx
        have hm : x.data.toList ∈ spl 59 s.data.toList := by rw [← hBm]; exact List.mem_map.2 ⟨x, hx, rfl⟩
        have := (spl_mem 59 _ _ hm).1
        simp only [Array.length_toList] at this
        have e1 : x.size = x.data.size := rfl
        have e2 : s.size = s.data.size := rfl
        omega
      rw [← hBm] at hv
      clear hBm hO hgB
      go_wp2_with fail
      go_loopw [4, 6] (fun ov i wr => ∃ (k : Nat) (go : Option Nat) (l : List BOp), k ≤ B.length ∧ i = .int .i64 (k : Int) ∧ SlO wr 68 3 opB go ov l ∧ Hid (allR ((B.take k).map (fun x : ByteArray => x.data.toList)) = some l) ∧ Ext NoB w1 wr ∧ (∀ q, go = some q → w1.heap.size ≤ q) ∧ l.length = k ∧ k ≤ 16) (fun _ i _ => B.length - (intOf i).toNat)
      case atStart => exact ⟨0, none, [], Nat.zero_le _, rfl, SlO.nil _ _ _ _, rfl, Ext.refl _ _, by simp, rfl, Nat.zero_le _⟩
      case round =>
        obtain ⟨k, go, l, hk, rfl, hlO, hal, hext, hgo, hll, hk16⟩ := hrel
        by_cases hlt : k < B.length
        · have t2 : decide (k < B.length) = true := by simp [hlt]
          have t2' : decide ((k : Int) < B.length) = true := by simp [hlt]
          have hcell := str_cells (hr.keep hext nb1) k B[k] (List.getElem?_eq_getElem hlt)
          have hszk := hBs.out _ (List.getElem_mem hlt)
          have htk : Hid (B.take (k + 1) = B.take k ++ [B[k]]) := List.take_succ_eq_append_getElem hlt
          have hdr : Hid (B = B.take k ++ B[k] :: B.drop (k + 1)) := by
            show _ = _
            rw [← List.drop_eq_getElem_cons hlt, List.take_append_drop]
          have hbad : Hid ((opRV B[k].data.toList).2 = false → allR (B.map (fun x : ByteArray => x.data.toList)) = none) := fun h => by
            rw [hdr.out, List.map_append, List.map_cons]
            exact allR_bad _ _ _ h
          have hgood : Hid ((opRV B[k].data.toList).2 = true → allR ((B.take (k + 1)).map (fun x : ByteArray => x.data.toList)) = some (l ++ [(opRV B[k].data.toList).1])) := fun h => by
            rw [htk.out, List.map_append]
            exact allR_snoc _ _ _ hal.out h
          generalize B[k] = bk at *
          go_wp2_with fail
          refine (opOf_calls bk (by omega) wr).mono ?_
          rintro e w2 ⟨rfl, hx2⟩
          generalize opRV bk.data.toList = ro at *
          obtain ⟨u, ok⟩ := ro
          dsimp only at *
          cases ok with
          | false =>
            have hR : Hid (R = ([], 3)) := by show _ = _; rw [hv.out, hbad.out rfl]
            go_wp2_with fail
            go_ret2
            exact ⟨_, by rw [hR.out]; rfl, none, by rw [hR.out]; exact SlO.nil _ _ _ _, (((hx1.trans hext (fun _ _ e => e)).trans hx2 (fun _ _ e => e)).alloc _), by simp⟩
          | true =>
            by_cases h16 : 16 ≤ k
            · have t3 : decide (16 ≤ k) = true := by simp [h16]
              have t3' : decide ((16 : Int) ≤ k) = true := by simp; omega
              have hR : Hid (R = ([], 3)) := by
                show _ = _
                rw [hv.out]
                cases hq : allR (B.map (fun x : ByteArray => x.data.toList)) with
                | none => rfl
                | some l2 =>
                  simp only []
                  have := allR_len _ _ hq
                  rw [List.length_map] at this
                  rw [if_neg (by omega)]
              go_wp2_with fail
              go_ret2
              exact ⟨_, by rw [hR.out]; rfl, none, by rw [hR.out]; exact SlO.nil _ _ _ _, (((hx1.trans hext (fun _ _ e => e)).trans hx2 (fun _ _ e => e)).alloc _), by simp⟩
            · have t3 : decide (16 ≤ k) = false := by simp; omega
              have t3' : decide ((16 : Int) ≤ k) = false := by simp; omega
              have hg2 := hgood.out rfl
              have hb1 : (l.length + 1) * 24 ≤ 140737488355328 := by omega
              have hb2 : l.length + 1 ≤ maxLen := by unfold maxLen; omega
              have hO2 := hlO.keep hx2 (fun _ _ => nb)
              go_wp2_with (at_builtin; go_loud (refine wpList_appendO (ys := [u]) rfl rfl elem_op opB_len opB_one (hO2.keep (((Ext.refl NoB _).alloc _).alloc _) (fun _ _ => nb)) rfl (SlR.one' (alloc_at' _ _ _ (by simp)) rfl) rfl rfl hb1 hb2 (fun v' w5 g' hO' hx5 hg' => ?_)))
              go_roundw
              case rel =>
                refine ⟨k + 1, g', l ++ [u], by omega, by go_num, hO', hg2, (hext.trans ((hx2.alloc _).alloc _) (fun _ _ e => e)).trans hx5 (fun i hi e => absurd (hgo i e) (by omega)), fun q hq => ?_, by simp; omega, by omega⟩
                rcases hg' with rfl | rfl
                · exact hgo q hq
                · simp only [Option.some.injEq] at hq
                  have h1 := hext.size
                  have h2 := hx2.size
                  simp at hq
                  omega
              case measure => simp [intOf]; omega
        · have t2 : decide (k < B.length) = false := by simp [hlt]
          have t2' : decide ((k : Int) < B.length) = false := by simp [hlt]
          obtain rfl : k = B.length := by omega
          have hR : Hid (R = (l, 0)) := by
            show _ = _
            have := hal.out
            rw [List.take_length] at this
            rw [hv.out, this]
            simp only []
            rw [if_pos (by omega)]
          go_wp2_with fail
          go_ret2
          refine ⟨_, go, by rw [hR.out]; rfl, by rw [hR.out]; exact hlO, hx1.trans hext (fun _ _ e => e), fun q hq => ?_⟩
          have h1 := hgo q hq
          have h2 := hx1.size
          omega

end Go.Proofs.YtgiimmiandhkhaaGreatDoor
