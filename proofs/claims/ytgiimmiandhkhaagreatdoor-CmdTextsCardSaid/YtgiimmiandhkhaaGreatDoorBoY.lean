/- The bodies: the reference's Digits, num, OpText, BodyText. -/
import Derived.Test.YtgiimmiandhkhaaGreatDoorProg
import Derived.Test.YtgiimmiandhkhaaGreatDoorBoX
namespace Go.Proofs.YtgiimmiandhkhaaGreatDoor
open Go.RowKit
set_option linter.unusedSimpArgs false
set_option linter.unusedVariables false

def tenS : ByteArray := ⟨#[48, 49, 50, 51, 52, 53, 54, 55, 56, 57]⟩
theorem ten_at (d : Nat) (h : d < 10) : tenS.extract d (d + 1) = mk [UInt8.ofNat (48 + d)] := by
  have : d = 0 ∨ d = 1 ∨ d = 2 ∨ d = 3 ∨ d = 4 ∨ d = 5 ∨ d = 6 ∨ d = 7 ∨ d = 8 ∨ d = 9 := by omega
  rcases this with rfl | rfl | rfl | rfl | rfl | rfl | rfl | rfl | rfl | rfl <;> rfl

theorem ten_slice (d : Nat) (h : d < 10) (x y : Int) (hx : x = (d : Int)) (hy : y = (d : Int) + 1) (w : World) :
    (Instr.slice 9 (.string ⟨#[48, 49, 50, 51, 52, 53, 54, 55, 56, 57]⟩) (some (.int .i64 x)) (some (.int .i64 y)) none).run Tryz.prog w = .ok (.string (mk [UInt8.ofNat (48 + d)])) w := by
  subst hx; subst hy
  have hsz : (⟨#[48, 49, 50, 51, 52, 53, 54, 55, 56, 57]⟩ : ByteArray).size = 10 := rfl
  rw [run_slice_string (P := Tryz.prog) (w := w) (h := Tryz.underlying9) (h0 := by omega) (h1 := by omega) (h2 := by rw [hsz]; omega)]
  have := ten_at d h
  unfold tenS at this
  rw [← this]
  congr 3

set_option maxRecDepth 20000 in
set_option maxHeartbeats 2000000 in
theorem digits_calls (n : Nat) (hn : n ≤ 1000000) (w : World) : Calls Tryz.prog 36 #[.int .u64 (n : Int)] w fun e w' => e = .returned (.string (mk (Lib.decDigits n))) ∧ Ext NoB w w' := by
  have hlen : (Lib.decDigits n).length ≤ 7 := by
    have := (itoa_len (n : Int) (by omega) (by omega)).1
    rwa [Lib.itoa_nonneg] at this
  go_enter Tryz.func36, Tryz.ntmps36
  go_wp2_with fail
  go_loopw [0, 3] (fun i s wr => ∃ (m : Nat) (sl : List UInt8), m ≤ 1000000 ∧ i = .int .u64 (m : Int) ∧ s = .string (mk sl) ∧ Hid (Lib.decDigits n = Lib.decDigits m ++ sl) ∧ Ext NoB w wr) (fun i _ _ => (intOf i).toNat)
  case atStart => exact ⟨n, [], hn, rfl, rfl, by show _ = _; simp, Ext.refl _ _⟩
  case round =>
    obtain ⟨m, sl, hm, rfl, rfl, hd, hext⟩ := hrel
    have hsl : sl.length ≤ 7 := by have := congrArg List.length hd.out; rw [List.length_append] at this; omega
    by_cases h9 : 9 < m
    · have t0 : decide (9 < m) = true := by simp [h9]
      have t0' : decide ((9 : Int) < m) = true := by simp; omega
      have hrec : Hid (Lib.decDigits m = Lib.decDigits (m / 10) ++ [UInt8.ofNat (48 + m % 10)]) := by show _ = _; rw [dec_rec, if_neg (by omega)]
      have hq : m % 10 < 10 := Nat.mod_lt _ (by decide)
      have hx1 := ten_slice (m % 10) hq ((m : Int) % 10) ((m : Int) % 10 + 1) (by omega) (by omega)
      have hx2 := mk_cat [UInt8.ofNat (48 + m % 10)] sl
      have z1 : ¬ 9223372036854775807 < (mk [UInt8.ofNat (48 + m % 10)]).size + (mk sl).size := by rw [mk_size, mk_size, List.length_singleton]; omega
      generalize UInt8.ofNat (48 + m % 10) = dg at *
      have hrec' : Hid (Lib.decDigits n = Lib.decDigits (m / 10) ++ ([dg] ++ sl)) := by show _ = _; rw [hd.out, hrec.out, List.append_assoc]
      have hS2 : Hid (mk ([dg] ++ sl) = mk ([dg] ++ sl)) := rfl
      generalize hS : mk ([dg] ++ sl) = S2 at hx2
      have hS' := Lib.hid hS
      clear hS hS2
      go_wp2_with fail
      go_roundw
      case rel => exact ⟨m / 10, [dg] ++ sl, by omega, by congr 1, by rw [hS'.out], hrec'.out, hext⟩
      case measure => simp [intOf]; omega
    · have t0 : decide (9 < m) = false := by simp; omega
      have t0' : decide ((9 : Int) < m) = false := by simp; omega
      have hx1 := ten_slice m (by omega) (m : Int) ((m : Int) + 1) rfl rfl
      have hx2 := mk_cat [UInt8.ofNat (48 + m)] sl
      have z1 : ¬ 9223372036854775807 < (mk [UInt8.ofNat (48 + m)]).size + (mk sl).size := by rw [mk_size, mk_size, List.length_singleton]; omega
      have hrec : Hid (Lib.decDigits m = [UInt8.ofNat (48 + m)]) := by show _ = _; rw [dec_rec, if_pos (by omega)]
      have hres : Hid (Lib.decDigits n = [UInt8.ofNat (48 + m)] ++ sl) := by show _ = _; rw [hd.out, hrec.out]
      generalize UInt8.ofNat (48 + m) = dg at *
      go_wp2_with fail
      go_ret
      exact ⟨by rw [hres.out]; rfl, hext⟩

theorem num_calls (n : Int) (h0 : 0 ≤ n) (hn : n ≤ 1000000) (w : World) : Calls Tryz.prog 53 #[.int .i64 n] w fun e w' => e = .returned (.string (mk (Lib.itoa n))) ∧ Ext NoB w w' := by
  obtain ⟨u, rfl⟩ : ∃ u : Nat, n = u := ⟨n.toNat, by omega⟩
  rw [Lib.itoa_nonneg]
  have t0 : decide ((u : Int) < 0) = false := by simp
  go_enter Tryz.func53, Tryz.ntmps53
  go_wp2_with fail
  refine (digits_calls u (by omega) w).mono ?_
  rintro e w' ⟨rfl, hx⟩
  go_wp2_with fail
  go_ret
  exact ⟨rfl, hx⟩

set_option maxRecDepth 20000 in
set_option maxHeartbeats 2000000 in
theorem opText_calls (o : BOp) (hf : fitsB o = true) (w : World) : Calls Tryz.prog 55 #[.agg #[.int .i64 o.k, .int .i64 o.a, .int .i64 o.b]] w fun e w' => e = .returned (.string (mk (toldL o))) ∧ Ext NoB w w' := by
  obtain ⟨h1, h2, h3, h4, h5, h6⟩ := fits_bnd hf
  obtain ⟨e0, e1, e2⟩ := argsL_eq o
  have la := (itoa_len o.a h3 (by omega)).1
  have lb := (itoa_len o.b h5 h6).1
  have hk : o.k = 1 ∨ o.k = 2 ∨ o.k = 3 ∨ o.k = 4 ∨ o.k = 5 := by omega
  obtain ⟨k, a, b⟩ := o
  dsimp only at *
  rcases hk with rfl | rfl | rfl | rfl | rfl
  · have hv : Hid (toldL ⟨1, a, b⟩ = [110, 111, 112]) := by show _ = _; unfold toldL; rw [show arOf 1 = 0 from rfl, e0]; rfl
    go_enter Tryz.func55, Tryz.ntmps55
    go_wp2_with fail
    go_ret
    exact ⟨by rw [hv.out]; rfl, (Ext.refl NoB w).alloc _⟩
  · have hv : Hid (toldL ⟨2, a, b⟩ = [115, 117, 98, 109, 105, 116, 32] ++ Lib.itoa a) := by show _ = _; unfold toldL; rw [show arOf 2 = 1 from rfl, e1]; rfl
    have c1 := mk_cat [115, 117, 98, 109, 105, 116, 32] (Lib.itoa a)
    have z1 : ¬ 9223372036854775807 < 7 + (mk (Lib.itoa a)).size := by rw [mk_size]; omega
    go_enter Tryz.func55, Tryz.ntmps55
    go_wp2_with fail
    refine (num_calls a h3 (by omega) _).mono ?_
    rintro e w1 ⟨rfl, hx1⟩
    have hv' : Hid (mk (toldL ⟨2, a, b⟩) = mk ([115, 117, 98, 109, 105, 116, 32] ++ Lib.itoa a)) := by show _ = _; rw [hv.out]
    generalize mk ([115, 117, 98, 109, 105, 116, 32] ++ Lib.itoa a) = S2 at *
    have c1 : (⟨#[115, 117, 98, 109, 105, 116, 32]⟩ : ByteArray) ++ mk (Lib.itoa a) = S2 := c1
    generalize mk (Lib.itoa a) = S1 at *
    go_wp2_with fail
    go_ret
    exact ⟨by rw [hv'.out]; rfl, ((Ext.refl NoB w).alloc _).trans hx1 (fun _ _ e => e)⟩
  · have hv : Hid (toldL ⟨3, a, b⟩ = [97, 102, 116, 101, 114, 32] ++ Lib.itoa a ++ [32] ++ Lib.itoa b) := by show _ = _; unfold toldL; rw [show arOf 3 = 2 from rfl, e2]; simp [wdOf]
    have c1 : (⟨#[97, 102, 116, 101, 114, 32]⟩ : ByteArray) ++ mk (Lib.itoa a) = mk ([97, 102, 116, 101, 114, 32] ++ Lib.itoa a) := mk_cat _ _
    have c2 : mk ([97, 102, 116, 101, 114, 32] ++ Lib.itoa a) ++ (⟨#[32]⟩ : ByteArray) = mk ([97, 102, 116, 101, 114, 32] ++ Lib.itoa a ++ [32]) := mk_cat _ [32]
    have c3 := mk_cat ([97, 102, 116, 101, 114, 32] ++ Lib.itoa a ++ [32]) (Lib.itoa b)
    have z1 : ¬ 9223372036854775807 < 6 + (mk (Lib.itoa a)).size := by rw [mk_size]; omega
    have z2 : ¬ 9223372036854775807 < (mk ([97, 102, 116, 101, 114, 32] ++ Lib.itoa a)).size + 1 := by rw [mk_size, List.length_append]; simp; omega
    have z3 : ¬ 9223372036854775807 < (mk ([97, 102, 116, 101, 114, 32] ++ Lib.itoa a ++ [32])).size + (mk (Lib.itoa b)).size := by rw [mk_size, mk_size, List.length_append, List.length_append]; simp; omega
    have hv' : Hid (mk (toldL ⟨3, a, b⟩) = mk ([97, 102, 116, 101, 114, 32] ++ Lib.itoa a ++ [32] ++ Lib.itoa b)) := by show _ = _; rw [hv.out]
    have na := Lib.hid (fun w => num_calls a h3 (by omega) w)
    have nb' := Lib.hid (fun w => num_calls b h5 h6 w)
    generalize mk ([97, 102, 116, 101, 114, 32] ++ Lib.itoa a ++ [32] ++ Lib.itoa b) = S3 at *
    generalize mk ([97, 102, 116, 101, 114, 32] ++ Lib.itoa a ++ [32]) = S2 at *
    generalize mk ([97, 102, 116, 101, 114, 32] ++ Lib.itoa a) = S1 at *
    generalize mk (Lib.itoa a) = Sa at *
    generalize mk (Lib.itoa b) = Sb at *
    go_enter Tryz.func55, Tryz.ntmps55
    have x0 : Ext NoB w (w.alloc (.cells #[.int .i64 3, .int .i64 a, .int .i64 b] 68)) := (Ext.refl NoB w).alloc _
    have hb0 := alloc_at w (.cells #[.int .i64 3, .int .i64 a, .int .i64 b] 68)
    go_wp2_with fail
    obtain ⟨bo, hbo⟩ : ∃ bo, w.heap.size = bo := ⟨_, rfl⟩
    rw [hbo] at hb0 ⊢
    generalize w.alloc (.cells #[.int .i64 3, .int .i64 a, .int .i64 b] 68) = wc at *
    have f1 : wc.cell? ⟨bo, 1, none⟩ = some (.int .i64 a) := by rw [cell_of_row wc bo 1 _ _ (0, 0) hb0]; rfl
    have f2 : wc.cell? ⟨bo, 2, none⟩ = some (.int .i64 b) := by rw [cell_of_row wc bo 2 _ _ (0, 0) hb0]; rfl
    have x1 : Ext NoB w wc.drew := x0.drew
    go_region_held3 (fun w' => w'.cell? ⟨bo, 1, none⟩ = some (.int .i64 a) ∧ w'.cell? ⟨bo, 2, none⟩ = some (.int .i64 b) ∧ Ext NoB w w') (first
      | exact ⟨f1, f2, x0⟩
      | exact ⟨f1, f2, x1⟩
      | exact ⟨hxb.cell (hxa.cell f1 nb) nb, hxb.cell (hxa.cell f2 nb) nb, (x1.trans hxa (fun _ _ e => e)).trans hxb (fun _ _ e => e)⟩
      | exact ⟨hxa.cell (hxb.cell f1 nb) nb, hxa.cell (hxb.cell f2 nb) nb, (x1.trans hxb (fun _ _ e => e)).trans hxa (fun _ _ e => e)⟩
      | exact ⟨hxa.cell f1 nb, hxa.cell f2 nb, x1.trans hxa (fun _ _ e => e)⟩
      | exact ⟨hxb.cell f1 nb, hxb.cell f2 nb, x1.trans hxb (fun _ _ e => e)⟩) (first
      | (go_at_call 53; (with_reducible refine (na.out _).mono ?_); rintro e wa ⟨rfl, hxa⟩)
      | (go_at_call 53; (with_reducible refine (nb'.out _).mono ?_); rintro e wb ⟨rfl, hxb⟩))
    all_goals first
      | (have xf := (x1.trans hxa (fun _ _ e => e)).trans hxb (fun _ _ e => e)
         go_wp2_with fail
         go_ret
         exact ⟨by rw [hv'.out]; rfl, xf⟩)
      | (have xf := (x1.trans hxb (fun _ _ e => e)).trans hxa (fun _ _ e => e)
         go_wp2_with fail
         go_ret
         exact ⟨by rw [hv'.out]; rfl, xf⟩)
  · have hv : Hid (toldL ⟨4, a, b⟩ = [99, 97, 110, 99, 101, 108, 32] ++ Lib.itoa a) := by show _ = _; unfold toldL; rw [show arOf 4 = 1 from rfl, e1]; rfl
    have c1 := mk_cat [99, 97, 110, 99, 101, 108, 32] (Lib.itoa a)
    have z1 : ¬ 9223372036854775807 < 7 + (mk (Lib.itoa a)).size := by rw [mk_size]; omega
    go_enter Tryz.func55, Tryz.ntmps55
    go_wp2_with fail
    refine (num_calls a h3 (by omega) _).mono ?_
    rintro e w1 ⟨rfl, hx1⟩
    have hv' : Hid (mk (toldL ⟨4, a, b⟩) = mk ([99, 97, 110, 99, 101, 108, 32] ++ Lib.itoa a)) := by show _ = _; rw [hv.out]
    generalize mk ([99, 97, 110, 99, 101, 108, 32] ++ Lib.itoa a) = S2 at *
    have c1 : (⟨#[99, 97, 110, 99, 101, 108, 32]⟩ : ByteArray) ++ mk (Lib.itoa a) = S2 := c1
    generalize mk (Lib.itoa a) = S1 at *
    go_wp2_with fail
    go_ret
    exact ⟨by rw [hv'.out]; rfl, ((Ext.refl NoB w).alloc _).trans hx1 (fun _ _ e => e)⟩
  · have hv : Hid (toldL ⟨5, a, b⟩ = [112, 97, 110, 105, 99]) := by show _ = _; unfold toldL; rw [show arOf 5 = 0 from rfl, e0]; rfl
    go_enter Tryz.func55, Tryz.ntmps55
    go_wp2_with fail
    go_ret
    exact ⟨by rw [hv.out]; rfl, (Ext.refl NoB w).alloc _⟩
end Go.Proofs.YtgiimmiandhkhaaGreatDoor
