/- The commands: the document's Digits, num, Num at any number; its Line. Printed by gen-cml.py. -/
import Derived.Test.YtgiimmiandhkhaaDoorProg
import Derived.Test.YtgiimmiandhkhaaDoorCmK
namespace Go.Proofs.YtgiimmiandhkhaaDoor
open Go.RowKit
set_option linter.unusedSimpArgs false
set_option linter.unusedVariables false

theorem dec_le20 (n : Nat) (hn : n < 18446744073709551616) : (Lib.decDigits n).length ≤ 20 := by
  rw [Lib.decDigits_length]
  have key : ∀ k u : Nat, u < 10 ^ (k + 1) → Lib.nDigits u ≤ k + 1 := by
    intro k
    induction k with
    | zero => intro u hu; rw [Lib.nDigits_small (by omega)]; omega
    | succ k ih =>
      intro u hu
      by_cases h : u < 10
      · rw [Lib.nDigits_small h]; omega
      · rw [Lib.nDigits_big h]
        have := ih (u / 10) (by rw [Nat.pow_succ] at hu ⊢; rw [Nat.pow_succ] at hu; omega)
        omega
  exact key 19 n (by have : (10 : Nat) ^ 20 = 100000000000000000000 := rfl; omega)
set_option maxRecDepth 20000 in
set_option maxHeartbeats 2000000 in
theorem digitsU_calls (n : Nat) (hn : n < 18446744073709551616) (w : World) : Calls Tryd.prog 10 #[.int .u64 (n : Int)] w fun e w' => e = .returned (.string (mk (Lib.decDigits n))) ∧ Ext NoB w w' := by
  have hlen : (Lib.decDigits n).length ≤ 20 := dec_le20 n hn
  go_enter Tryd.func10, Tryd.ntmps10
  go_wp2_with fail
  go_loopw [0, 3] (fun i s wr => ∃ (m : Nat) (sl : List UInt8), m < 18446744073709551616 ∧ i = .int .u64 (m : Int) ∧ s = .string (mk sl) ∧ Hid (Lib.decDigits n = Lib.decDigits m ++ sl) ∧ Ext NoB w wr) (fun i _ _ => (intOf i).toNat)
  case atStart => exact ⟨n, [], hn, rfl, rfl, by show _ = _; simp, Ext.refl _ _⟩
  case round =>
    obtain ⟨m, sl, hm, rfl, rfl, hd, hext⟩ := hrel
    have hsl : sl.length ≤ 20 := by have := congrArg List.length hd.out; rw [List.length_append] at this; omega
    by_cases h9 : 9 < m
    · have t0 : decide (9 < m) = true := by simp [h9]
      have t0' : decide ((9 : Int) < m) = true := by simp; omega
      have hrec : Hid (Lib.decDigits m = Lib.decDigits (m / 10) ++ [UInt8.ofNat (48 + m % 10)]) := by show _ = _; rw [dec_rec, if_neg (by omega)]
      have hq : m % 10 < 10 := Nat.mod_lt _ (by decide)
      have hx1 := ten_slice (m % 10) hq ((m : Int) % 10) ((m : Int) % 10 + 1) (by omega) (by omega)
      have hx2 := mk_cat [UInt8.ofNat (48 + m % 10)] sl
      have z1 : ¬ 9223372036854775807 < (mk [UInt8.ofNat (48 + m % 10)]).size + (mk sl).size := by rw [mk_size, mk_size, List.length_singleton]; omega
      generalize UInt8.ofNat (48 + m % 10) = dg at *
      have hrec' : Hid (Lib.decDigits n = Lib.decDigits (m / 10) ++ ([dg] ++ sl)) := by show _ = _; rw [hd.out, hrec.out, List.append_assoc]
      have hS2 : Hid (mk ([dg] ++ sl) = mk ([dg] ++ sl)) := rfl
      generalize hS : mk ([dg] ++ sl) = S2 at hx2
      have hS' := Lib.hid hS
      clear hS hS2
      go_wp2_with fail
      go_roundw
      case rel => exact ⟨m / 10, [dg] ++ sl, by omega, by congr 1, by rw [hS'.out], hrec'.out, hext⟩
      case measure => simp [intOf]; omega
    · have t0 : decide (9 < m) = false := by simp; omega
      have t0' : decide ((9 : Int) < m) = false := by simp; omega
      have hx1 := ten_slice m (by omega) (m : Int) ((m : Int) + 1) rfl rfl
      have hx2 := mk_cat [UInt8.ofNat (48 + m)] sl
      have z1 : ¬ 9223372036854775807 < (mk [UInt8.ofNat (48 + m)]).size + (mk sl).size := by rw [mk_size, mk_size, List.length_singleton]; omega
      have hrec : Hid (Lib.decDigits m = [UInt8.ofNat (48 + m)]) := by show _ = _; rw [dec_rec, if_pos (by omega)]
      have hres : Hid (Lib.decDigits n = [UInt8.ofNat (48 + m)] ++ sl) := by show _ = _; rw [hd.out, hrec.out]
      generalize UInt8.ofNat (48 + m) = dg at *
      go_wp2_with fail
      go_ret
      exact ⟨by rw [hres.out]; rfl, hext⟩


set_option maxRecDepth 40000 in
set_option maxHeartbeats 4000000 in
theorem numA_calls (n : Int) (h0 : -9223372036854775808 ≤ n) (h1 : n ≤ 9223372036854775807) (w : World) : Calls Tryd.prog 11 #[.int .i64 n] w fun e w' => e = .returned (.string (mk (Lib.itoa n))) ∧ Ext NoB w w' := by
  by_cases hn : n < 0
  · obtain ⟨u, rfl⟩ : ∃ u : Nat, n = -(u : Int) := ⟨n.natAbs, by omega⟩
    have hu1 : 1 ≤ u := by omega
    have hu : u < 18446744073709551616 := by omega
    have t0 : decide (-(u : Int) < 0) = true := by simp; omega
    have t0' : decide (0 < u) = true := by simp; omega
    have hw3 : IntKind.u64.wrap (wrap64 (u : Int)) = (u : Int) := by rw [IntKind.wrap_u64]; unfold wrap64; omega
    have hd := Lib.hid (digitsU_calls u hu w)
    have hl := dec_le20 u hu
    have hc := mk_cat [45] (Lib.decDigits u)
    have hc : (⟨#[45]⟩ : ByteArray) ++ mk (Lib.decDigits u) = mk (45 :: Lib.decDigits u) := hc
    have hres : Hid (Lib.itoa (-(u : Int)) = 45 :: Lib.decDigits u) := by show _ = _; rw [Lib.itoa_neg u hu1]
    have z1 : ¬ 9223372036854775807 < 1 + (mk (Lib.decDigits u)).size := by rw [mk_size]; omega
    go_enter Tryd.func11, Tryd.ntmps11
    go_wp2_with fail
    with_reducible refine hd.out.mono ?_
    rintro e w' ⟨rfl, hx⟩
    generalize hS : mk (45 :: Lib.decDigits u) = S2 at *
    replace hS := Lib.hid hS
    go_wp2_with fail
    go_ret
    exact ⟨by rw [hres.out, hS.out]; rfl, hx⟩
  · obtain ⟨u, rfl⟩ : ∃ u : Nat, n = u := ⟨n.toNat, by omega⟩
    rw [Lib.itoa_nonneg]
    have t0 : decide ((u : Int) < 0) = false := by simp
    go_enter Tryd.func11, Tryd.ntmps11
    go_wp2_with fail
    refine (digitsU_calls u (by omega) w).mono ?_
    rintro e w' ⟨rfl, hx⟩
    go_wp2_with fail
    go_ret
    exact ⟨rfl, hx⟩
theorem Num_calls (n : Int) (h0 : -9223372036854775808 ≤ n) (h1 : n ≤ 9223372036854775807) (w : World) : Calls Tryd.prog 6 #[.int .i64 n] w fun e w' => e = .returned (.string (mk (Lib.itoa n))) ∧ Ext NoB w w' := by
  have hd := Lib.hid (numA_calls n h0 h1 w)
  go_enter Tryd.func6, Tryd.ntmps6
  go_wp2_with fail
  refine hd.out.mono ?_
  rintro e w' ⟨rfl, hx⟩
  go_wp2_with fail
  go_ret
  exact ⟨rfl, hx⟩
theorem digitsN_calls (n : Int) (h : 0 ≤ n ∧ n < 18446744073709551616) (w : World) : Calls Tryd.prog 10 #[.int .u64 n] w fun e w' => e = .returned (.string (mk (Lib.decDigits n.toNat))) ∧ Ext NoB w w' := by
  obtain ⟨u, rfl⟩ : ∃ u : Nat, n = u := ⟨n.toNat, by omega⟩
  exact digitsU_calls u (by omega) w

/-! ### Line -/
def argR (c : Cm) (f : UInt8) : List (List UInt8) := if f = 108 then c.preds.map Lib.itoa else [toldC c (signOf f)]
def spaced (l : List (List UInt8)) : List UInt8 := l.flatMap (fun w => 32 :: w)
/-- The document's line. -/
def lineR (c : Cm) : List UInt8 :=
  if c.k < 1 ∨ 14 < c.k ∨ 20 < c.preds.length then []
  else if 98 ∈ cmForm c.k.toNat ∧ okB c.body = false then []
  else wordOf c.k ++ spaced ((cmForm c.k.toNat).flatMap (argR c))
theorem join_spaced (x : List UInt8) (r : List (List UInt8)) : Lib.join (x :: r) [32] = x ++ spaced r := by
  rw [Lib.join_cons]
  congr 1
theorem word_ne (k : Int) (h1 : 1 ≤ k) (h14 : k ≤ 14) : wordOf k ≠ [] := by
  have : k = 1 ∨ k = 2 ∨ k = 3 ∨ k = 4 ∨ k = 5 ∨ k = 6 ∨ k = 7 ∨ k = 8 ∨ k = 9 ∨ k = 10 ∨ k = 11 ∨ k = 12 ∨ k = 13 ∨ k = 14 := by omega
  rcases this with rfl | rfl | rfl | rfl | rfl | rfl | rfl | rfl | rfl | rfl | rfl | rfl | rfl | rfl <;> decide
/-- A command that may be has one line. -/
theorem lineR_eq (c : Cm) (h : cmdV (lineV c) = (c, 0)) : lineR c = lineV c ∧ lineR c ≠ [] := by
  obtain ⟨_, ⟨h1, h14⟩, hok, hf, _⟩ := cmd_told h
  have e : lineR c = lineV c := by
    unfold lineR lineV
    rw [if_neg (by omega), if_neg (by rw [hok]; simp), join_spaced]
    congr 2
    unfold argsC
    congr 1
    funext f
    unfold argR argC
    rw [List.take_of_length_le (by omega)]
  refine ⟨e, ?_⟩
  unfold lineR
  rw [if_neg (by omega), if_neg (by rw [hok]; simp)]
  intro hh
  exact word_ne c.k h1 h14 (List.append_eq_nil_iff.1 hh).1
/-- The document's text. -/
theorem textR_eq (c : Cm) : (if lineR c = [] then none else if cmdV (lineR c) = (c, 0) then some (lineR c) else none) = if cmdV (lineV c) = (c, 0) then some (lineV c) else none := by
  by_cases h : cmdV (lineV c) = (c, 0)
  · obtain ⟨e1, e2⟩ := lineR_eq c h
    rw [if_pos h, if_neg e2, e1, if_pos h]
  · rw [if_neg h]
    split
    · rfl
    · split
      · rename_i h2
        exact absurd (by rw [(cmd_told h2).1]; exact h2) h
      · rfl

theorem spaced_app (a b : List (List UInt8)) : spaced (a ++ b) = spaced a ++ spaced b := by unfold spaced; rw [List.flatMap_append]
theorem spaced_one (x : List UInt8) : spaced [x] = 32 :: x := by simp [spaced]
theorem itoa_le20 (n : Int) (h : -9223372036854775808 ≤ n ∧ n ≤ 9223372036854775807) : (Lib.itoa n).length ≤ 21 := Lib.itoa_length_le n h.1 h.2

theorem form7 (k : Nat) : ∀ f ∈ cmForm k, f = 116 ∨ f = 112 ∨ f = 98 ∨ f = 105 ∨ f = 110 ∨ f = 109 ∨ f = 108 := by
  unfold cmForm; split <;> decide
end Go.Proofs.YtgiimmiandhkhaaDoor
