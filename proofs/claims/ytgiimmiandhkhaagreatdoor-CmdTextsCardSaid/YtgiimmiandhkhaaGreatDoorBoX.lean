/- The bodies: the reference's OpOk, BodyOk, Steps. -/
import Derived.Test.YtgiimmiandhkhaaGreatDoorProg
import Derived.Test.YtgiimmiandhkhaaGreatDoorBoU
namespace Go.Proofs.YtgiimmiandhkhaaGreatDoor
open Go.RowKit
set_option linter.unusedSimpArgs false
set_option linter.unusedVariables false

theorem fitsK1 (a b : Int) : fitsB ⟨1, a, b⟩ = (a == 0 && b == 0) := by
  rw [Bool.eq_iff_iff]
  simp only [fitsB, Bool.and_eq_true, decide_eq_true_iff, beq_iff_eq, show spanOf 1 0 = (0, 0) by decide, show spanOf 1 1 = (0, 0) by decide]
  omega
theorem fitsK5 (a b : Int) : fitsB ⟨5, a, b⟩ = (a == 0 && b == 0) := by
  rw [Bool.eq_iff_iff]
  simp only [fitsB, Bool.and_eq_true, decide_eq_true_iff, beq_iff_eq, show spanOf 5 0 = (0, 0) by decide, show spanOf 5 1 = (0, 0) by decide]
  omega
theorem fitsK2 (a b : Int) : fitsB ⟨2, a, b⟩ = (decide (0 ≤ a) && decide (a ≤ 7) && (b == 0)) := by
  rw [Bool.eq_iff_iff]
  simp only [fitsB, Bool.and_eq_true, decide_eq_true_iff, beq_iff_eq, show spanOf 2 0 = (0, 7) by decide, show spanOf 2 1 = (0, 0) by decide]
  omega
theorem fitsK3 (a b : Int) : fitsB ⟨3, a, b⟩ = (decide (0 ≤ a) && decide (a ≤ 7) && decide (0 ≤ b) && decide (b ≤ 1000000)) := by
  rw [Bool.eq_iff_iff]
  simp only [fitsB, Bool.and_eq_true, decide_eq_true_iff, beq_iff_eq, show spanOf 3 0 = (0, 7) by decide, show spanOf 3 1 = (0, 1000000) by decide]
  omega
theorem fitsK4 (a b : Int) : fitsB ⟨4, a, b⟩ = (decide (1 ≤ a) && decide (a ≤ 1000) && (b == 0)) := by
  rw [Bool.eq_iff_iff]
  simp only [fitsB, Bool.and_eq_true, decide_eq_true_iff, beq_iff_eq, show spanOf 4 0 = (1, 1000) by decide, show spanOf 4 1 = (0, 0) by decide]
  omega
theorem fitsK0 (k a b : Int) (h : ¬ (k = 1 ∨ k = 2 ∨ k = 3 ∨ k = 4 ∨ k = 5)) : fitsB ⟨k, a, b⟩ = false := by
  rw [Bool.eq_false_iff]
  intro hc
  have := fits_bnd hc
  dsimp only at this
  omega

set_option maxHeartbeats 2000000 in
theorem opOk_calls (o : BOp) (w : World) : Calls Tryz.prog 65 #[.agg #[.int .i64 o.k, .int .i64 o.a, .int .i64 o.b]] w fun e w' => e = .returned (.bool (fitsB o)) ∧ Ext NoB w w' := by
  obtain ⟨k, a, b⟩ := o
  dsimp only
  have hx : Ext NoB w (w.alloc (.cells #[.int .i64 k, .int .i64 a, .int .i64 b] 68)) := (Ext.refl NoB w).alloc _
  by_cases hk : k = 1 ∨ k = 2 ∨ k = 3 ∨ k = 4 ∨ k = 5
  · rcases hk with rfl | rfl | rfl | rfl | rfl
    · have hv := Lib.hid (fitsK1 a b)
      go_enter Tryz.func65, Tryz.ntmps65
      go_wp2_with fail
      all_goals (go_ret; refine ⟨?_, (Ext.refl NoB w).alloc _⟩; rw [hv.out]; first | (simp [*]; done) | (simp [*]; omega))
    · have hv := Lib.hid (fitsK2 a b)
      go_enter Tryz.func65, Tryz.ntmps65
      go_wp2_with fail
      all_goals (go_ret; refine ⟨?_, (Ext.refl NoB w).alloc _⟩; rw [hv.out]; first | (simp [*]; done) | (simp [*]; omega))
    · have hv := Lib.hid (fitsK3 a b)
      go_enter Tryz.func65, Tryz.ntmps65
      go_wp2_with fail
      all_goals (go_ret; refine ⟨?_, (Ext.refl NoB w).alloc _⟩; rw [hv.out]; first | (simp [*]; done) | (simp [*]; omega))
    · have hv := Lib.hid (fitsK4 a b)
      go_enter Tryz.func65, Tryz.ntmps65
      go_wp2_with fail
      all_goals (go_ret; refine ⟨?_, (Ext.refl NoB w).alloc _⟩; rw [hv.out]; first | (simp [*]; done) | (simp [*]; omega))
    · have hv := Lib.hid (fitsK5 a b)
      go_enter Tryz.func65, Tryz.ntmps65
      go_wp2_with fail
      all_goals (go_ret; refine ⟨?_, (Ext.refl NoB w).alloc _⟩; rw [hv.out]; first | (simp [*]; done) | (simp [*]; omega))
  · have hv := Lib.hid (fitsK0 k a b hk)
    have n1 : (k == 1) = false := by rw [beq_eq_false_iff_ne]; omega
    have n2 : (k == 2) = false := by rw [beq_eq_false_iff_ne]; omega
    have n3 : (k == 3) = false := by rw [beq_eq_false_iff_ne]; omega
    have n4 : (k == 4) = false := by rw [beq_eq_false_iff_ne]; omega
    have n5 : (k == 5) = false := by rw [beq_eq_false_iff_ne]; omega
    clear hk
    go_enter Tryz.func65, Tryz.ntmps65
    go_wp2_with fail
    go_ret
    exact ⟨by rw [hv.out]; rfl, hx⟩

set_option maxHeartbeats 2000000 in
theorem okR_calls (A : Option Addr) (c b o : Nat) (xs : List BOp) (w : World) (hx : SlR w 3 opB A c b o xs) :
    Calls Tryz.prog 54 #[.slice A xs.length c] w fun e w' => e = .returned (.bool (okB xs)) ∧ Ext NoB w w' := by
  have hl := hx.le
  have hm := hx.max
  unfold maxLen at hm
  by_cases h16 : xs.length ≤ 16
  · have t0 : decide (16 < xs.length) = false := by simp; omega
    have t0' : decide ((16 : Int) < xs.length) = false := by simp; omega
    have hv : Hid (okB xs = xs.all fitsB) := by show _ = _; unfold okB; rw [decide_eq_true h16]; rfl
    go_enter Tryz.func54, Tryz.ntmps54
    go_wp2_with fail
    go_loopw [3] (fun i wr => ∃ k : Nat, k ≤ xs.length ∧ i = .int .i64 k ∧ Hid ((xs.take k).all fitsB = true) ∧ Ext NoB w wr) (fun i _ => xs.length - (intOf i).toNat)
    case atStart => exact ⟨0, Nat.zero_le _, rfl, rfl, Ext.refl _ _⟩
    case round =>
      obtain ⟨k, hk, rfl, hno, hext⟩ := hrel
      by_cases hlt : k < xs.length
      · have t1 : decide (k < xs.length) = true := by simp [hlt]
        obtain rfl := hx.addr (by omega)
        have hxe := hx.keep hext nb1
        have e0 := hxe.cell opB_len k xs[k] (List.getElem?_eq_getElem hlt) 0 _ rfl
        have e1 := hxe.cell opB_len k xs[k] (List.getElem?_eq_getElem hlt) 1 _ rfl
        have e2 := hxe.cell opB_len k xs[k] (List.getElem?_eq_getElem hlt) 2 _ rfl
        rw [Nat.add_zero] at e0
        have htk := Lib.hid (List.take_succ_eq_append_getElem hlt)
        have hbad : Hid (fitsB xs[k] = false → xs.all fitsB = false) := fun h => by
          rw [Bool.eq_false_iff]
          intro hc
          rw [List.all_eq_true.1 hc _ (List.getElem_mem _)] at h
          cases h
        generalize xs[k] = u at *
        go_wp2_with fail
        refine (opOk_calls u wr).mono ?_
        rintro e w2 ⟨rfl, hx2⟩
        cases hf : fitsB u with
        | true =>
          have hf' := Lib.hid hf
          clear hf
          go_wp2_with fail
          go_roundw
          case rel => exact ⟨k + 1, by omega, by go_num, by show _ = _; rw [htk.out, List.all_append, hno.out]; simp [hf'.out], hext.trans hx2 (fun _ _ e => e)⟩
          case measure => simp [intOf]; omega
        | false =>
          have hb := Lib.hid (hbad.out hf)
          clear hf
          go_wp2_with fail
          go_ret
          exact ⟨by rw [hv.out, hb.out]; rfl, hext.trans hx2 (fun _ _ e => e)⟩
      · have t1 : decide (k < xs.length) = false := by simp [hlt]
        obtain rfl : k = xs.length := by omega
        have hall : Hid (xs.all fitsB = true) := by have := hno.out; rw [List.take_length] at this; exact this
        go_wp2_with fail
        go_ret
        exact ⟨by rw [hv.out, hall.out]; rfl, hext⟩
  · have t0 : decide (16 < xs.length) = true := by simp; omega
    have t0' : decide ((16 : Int) < xs.length) = true := by simp; omega
    have hv : Hid (okB xs = false) := by show _ = _; unfold okB; rw [decide_eq_false h16]; rfl
    go_enter Tryz.func54, Tryz.ntmps54
    go_wp2_with fail
    go_ret
    exact ⟨by rw [hv.out]; rfl, Ext.refl _ _⟩

end Go.Proofs.YtgiimmiandhkhaaGreatDoor
