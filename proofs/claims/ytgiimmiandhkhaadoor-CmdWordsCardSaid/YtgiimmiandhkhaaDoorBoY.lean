/- The bodies: the reference's Digits, num, OpText, BodyText. -/
import Derived.Test.YtgiimmiandhkhaaDoorProg
import Derived.Test.YtgiimmiandhkhaaDoorBoX
namespace Go.Proofs.YtgiimmiandhkhaaDoor
open Go.RowKit
set_option linter.unusedSimpArgs false
set_option linter.unusedVariables false

def tenS : ByteArray := ⟨#[48, 49, 50, 51, 52, 53, 54, 55, 56, 57]⟩
theorem ten_at (d : Nat) (h : d < 10) : tenS.extract d (d + 1) = mk [UInt8.ofNat (48 + d)] := by
  have : d = 0 ∨ d = 1 ∨ d = 2 ∨ d = 3 ∨ d = 4 ∨ d = 5 ∨ d = 6 ∨ d = 7 ∨ d = 8 ∨ d = 9 := by omega
  rcases this with rfl | rfl | rfl | rfl | rfl | rfl | rfl | rfl | rfl | rfl <;> rfl

theorem ten_slice (d : Nat) (h : d < 10) (x y : Int) (hx : x = (d : Int)) (hy : y = (d : Int) + 1) (w : World) :
    (Instr.slice 9 (.string ⟨#[48, 49, 50, 51, 52, 53, 54, 55, 56, 57]⟩) (some (.int .i64 x)) (some (.int .i64 y)) none).run Tryd.prog w = .ok (.string (mk [UInt8.ofNat (48 + d)])) w := by
  subst hx; subst hy
  have hsz : (⟨#[48, 49, 50, 51, 52, 53, 54, 55, 56, 57]⟩ : ByteArray).size = 10 := rfl
  rw [run_slice_string (P := Tryd.prog) (w := w) (h := Tryd.underlying9) (h0 := by omega) (h1 := by omega) (h2 := by rw [hsz]; omega)]
  have := ten_at d h
  unfold tenS at this
  rw [← this]
  congr 3

set_option maxRecDepth 20000 in
set_option maxHeartbeats 2000000 in
theorem digits_calls (n : Nat) (hn : n ≤ 1000000) (w : World) : Calls Tryd.prog 10 #[.int .u64 (n : Int)] w fun e w' => e = .returned (.string (mk (Lib.decDigits n))) ∧ Ext NoB w w' := by
  have hlen : (Lib.decDigits n).length ≤ 7 := by
    have := (itoa_len (n : Int) (by omega) (by omega)).1
    rwa [Lib.itoa_nonneg] at this
  go_enter Tryd.func10, Tryd.ntmps10
  go_wp2_with fail
  go_loopw [0, 3] (fun i s wr => ∃ (m : Nat) (sl : List UInt8), m ≤ 1000000 ∧ i = .int .u64 (m : Int) ∧ s = .string (mk sl) ∧ Hid (Lib.decDigits n = Lib.decDigits m ++ sl) ∧ Ext NoB w wr) (fun i _ _ => (intOf i).toNat)
  case atStart => exact ⟨n, [], hn, rfl, rfl, by show _ = _; simp, Ext.refl _ _⟩
  case round =>
    obtain ⟨m, sl, hm, rfl, rfl, hd, hext⟩ := hrel
    have hsl : sl.length ≤ 7 := by have := congrArg List.length hd.out; rw [List.length_append] at this; omega
    by_cases h9 : 9 < m
    · have t0 : decide (9 < m) = true := by simp [h9]
      have t0' : decide ((9 : Int) < m) = true := by simp; omega
      have hrec : Hid (Lib.decDigits m = Lib.decDigits (m / 10) ++ [UInt8.ofNat (48 + m % 10)]) := by show _ = _; rw [dec_rec, if_neg (by omega)]
      have hq : m % 10 < 10 := Nat.mod_lt _ (by decide)
      have hx1 := ten_slice (m % 10) hq ((m : Int) % 10) ((m : Int) % 10 + 1) (by omega) (by omega)
      have hx2 := mk_cat [UInt8.ofNat (48 + m % 10)] sl
      have z1 : ¬ 9223372036854775807 < (mk [UInt8.ofNat (48 + m % 10)]).size + (mk sl).size := by rw [mk_size, mk_size, List.length_singleton]; omega
      generalize UInt8.ofNat (48 + m % 10) = dg at *
      have hrec' : Hid (Lib.decDigits n = Lib.decDigits (m / 10) ++ ([dg] ++ sl)) := by show _ = _; rw [hd.out, hrec.out, List.append_assoc]
      have hS2 : Hid (mk ([dg] ++ sl) = mk ([dg] ++ sl)) := rfl
      generalize hS : mk ([dg] ++ sl) = S2 at hx2
      have hS' := Lib.hid hS
      clear hS hS2
      go_wp2_with fail
      go_roundw
      case rel => exact ⟨m / 10, [dg] ++ sl, by omega, by congr 1, by rw [hS'.out], hrec'.out, hext⟩
      case measure => simp [intOf]; omega
    · have t0 : decide (9 < m) = false := by simp; omega
      have t0' : decide ((9 : Int) < m) = false := by simp; omega
      have hx1 := ten_slice m (by omega) (m : Int) ((m : Int) + 1) rfl rfl
      have hx2 := mk_cat [UInt8.ofNat (48 + m)] sl
      have z1 : ¬ 9223372036854775807 < (mk [UInt8.ofNat (48 + m)]).size + (mk sl).size := by rw [mk_size, mk_size, List.length_singleton]; omega
      have hrec : Hid (Lib.decDigits m = [UInt8.ofNat (48 + m)]) := by show _ = _; rw [dec_rec, if_pos (by omega)]
      have hres : Hid (Lib.decDigits n = [UInt8.ofNat (48 + m)] ++ sl) := by show _ = _; rw [hd.out, hrec.out]
      generalize UInt8.ofNat (48 + m) = dg at *
      go_wp2_with fail
      go_ret
      exact ⟨by rw [hres.out]; rfl, hext⟩

theorem num_calls (n : Int) (h0 : 0 ≤ n) (hn : n ≤ 1000000) (w : World) : Calls Tryd.prog 11 #[.int .i64 n] w fun e w' => e = .returned (.string (mk (Lib.itoa n))) ∧ Ext NoB w w' := by
  obtain ⟨u, rfl⟩ : ∃ u : Nat, n = u := ⟨n.toNat, by omega⟩
  rw [Lib.itoa_nonneg]
  have t0 : decide ((u : Int) < 0) = false := by simp
  go_enter Tryd.func11, Tryd.ntmps11
  go_wp2_with fail
  refine (digits_calls u (by omega) w).mono ?_
  rintro e w' ⟨rfl, hx⟩
  go_wp2_with fail
  go_ret
  exact ⟨rfl, hx⟩

end Go.Proofs.YtgiimmiandhkhaaDoor
