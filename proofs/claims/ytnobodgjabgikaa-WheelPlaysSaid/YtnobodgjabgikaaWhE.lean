/- The wheel: what it is in memory; where a timer belongs. -/
import Derived.Test.YtnobodgjabgikaaProg
import Derived.Test.YtnobodgjabgikaaWhD
import Derived.Test.YtnobodgjabgikaaWhS
import Derived.Test.YtnobodgjabgikaaKeys
import Derived.Test.YtnobodgjabgikaaIter
import Derived.Laws.Bits64
import Derived.Laws.Bits64b
import Derived.Lib.ItoaNum
namespace Go.Proofs.Ytnobodgjabgikaa
open Go.RowKit Go.Sort
set_option linter.unusedSimpArgs false
set_option linter.unusedVariables false

/-- A slot's slice, its block, what it reads as. -/
structure SlC where
  a : Option Addr
  n : Nat
  c : Nat
  g : Option Nat
  xs : List Tm
def slV (s : SlC) : Value := .slice s.a s.n s.c
abbrev Spt := Int × Int

/-- A wheel as it lies. -/
structure Wh where
  b : Nat
  r1 : Nat
  r2 : Nat
  r3 : Nat
  now : Nat
  at' : List (Int × Spt)
  due : List (Int × Int)
  sl : List (Spt × SlC)
def Wh.own (W : Wh) (q : Nat) : Prop := q = W.b ∨ q = W.r1 ∨ q = W.r2 ∨ q = W.r3 ∨ ∃ e ∈ W.sl, e.2.g = some q

structure WhAt (w : World) (W : Wh) : Prop where
  blk : w.heap[W.b]? = some (.cells #[.int .u64 W.now, .map (some W.r1), .map (some W.r2), .map (some W.r3)] 59 (0, 0))
  m1 : MapAt w W.r1 (intV .i64) (pairV .i64) W.at'
  m2 : MapAt w W.r2 (intV .i64) (intV .u64) W.due
  m3 : MapAt w W.r3 (pairV .i64) slV W.sl
  ok : ∀ e ∈ W.sl, SlO w 33 2 timerE e.2.g (slV e.2) e.2.xs
  dj : ∀ x ∈ W.sl, ∀ y ∈ W.sl, x.1 ≠ y.1 → ∀ q, x.2.g = some q → y.2.g ≠ some q
  nb : ∀ e ∈ W.sl, e.2.g ≠ some W.b
  d12 : W.r1 ≠ W.r2
  d13 : W.r1 ≠ W.r3
  d23 : W.r2 ≠ W.r3
  small : W.now < 18446744073709551616

/-- The level of a timer that is due later. -/
def lvl (now due : Nat) : Nat := if due / 64 = now / 64 then 0 else if due / 4096 = now / 4096 then 1 else if due / 262144 = now / 262144 then 2 else if due / 16777216 = now / 16777216 then 3 else 4
/-- Where a timer belongs. -/
def whereS (now due : Nat) : Spt := if due ≤ now then (-1, 0) else
  if lvl now due = 0 then (0, ((due % 64 : Nat) : Int)) else if lvl now due = 1 then (1, ((due / 64 % 64 : Nat) : Int)) else if lvl now due = 2 then (2, ((due / 4096 % 64 : Nat) : Int)) else if lvl now due = 3 then (3, ((due / 262144 % 64 : Nat) : Int)) else (4, 0)

theorem xor_div (a b k : Nat) : (a ^^^ b) / 2 ^ k = 0 ↔ a / 2 ^ k = b / 2 ^ k := by
  rw [← Nat.shiftRight_eq_div_pow, ← Nat.shiftRight_eq_div_pow, ← Nat.shiftRight_eq_div_pow, Nat.shiftRight_xor_distrib]
  constructor
  · intro h
    apply Nat.eq_of_testBit_eq
    intro i
    have := congrArg (fun n => n.testBit i) h
    simp only [Nat.testBit_xor, Nat.zero_testBit] at this
    simpa using this
  · intro h; rw [h]; exact Nat.xor_self _

theorem len_ge (x j : Nat) (hx : x < 2 ^ 64) (h0 : x ≠ 0) : x / 2 ^ j ≠ 0 ↔ j + 1 ≤ Lib.bitLen x := by
  obtain ⟨h1, h2, h3⟩ := Lib.bitLenAux_bounds 64 x hx h0
  change 1 ≤ Lib.bitLen x at h1
  change 2 ^ (Lib.bitLen x - 1) ≤ x at h2
  change x < 2 ^ Lib.bitLen x at h3
  have hd : x / 2 ^ j ≠ 0 ↔ 2 ^ j ≤ x := by
    rw [Ne, Nat.div_eq_zero_iff]
    have := Nat.two_pow_pos j
    omega
  rw [hd]
  constructor
  · intro h
    refine Classical.byContradiction fun hn => ?_
    have := Nat.pow_le_pow_right (n := 2) (by omega) (show Lib.bitLen x ≤ j by omega)
    omega
  · intro h
    have := Nat.pow_le_pow_right (n := 2) (by omega) (show j ≤ Lib.bitLen x - 1 by omega)
    omega

theorem xor_lt (a b : Nat) (ha : a < 2 ^ 64) (hb : b < 2 ^ 64) : a ^^^ b < 2 ^ 64 := Nat.xor_lt_two_pow ha hb

/-- The level, by the length of the difference. -/
theorem lvl_len (now due : Nat) (hn : now < 18446744073709551616) (hd : due < 18446744073709551616) (h : now < due) :
    1 ≤ Lib.bitLen (due ^^^ now) ∧ Lib.bitLen (due ^^^ now) ≤ 64 ∧ (lvl now due = 0 → Lib.bitLen (due ^^^ now) ≤ 6) ∧ (lvl now due = 1 → 7 ≤ Lib.bitLen (due ^^^ now) ∧ Lib.bitLen (due ^^^ now) ≤ 12) ∧ (lvl now due = 2 → 13 ≤ Lib.bitLen (due ^^^ now) ∧ Lib.bitLen (due ^^^ now) ≤ 18) ∧ (lvl now due = 3 → 19 ≤ Lib.bitLen (due ^^^ now) ∧ Lib.bitLen (due ^^^ now) ≤ 24) ∧ (lvl now due = 4 → 25 ≤ Lib.bitLen (due ^^^ now)) := by
  have hx := xor_lt due now hd hn
  have h0 : due ^^^ now ≠ 0 := fun e => by
    have := (xor_div due now 0).1 (by rw [e])
    simp at this; omega
  have key : ∀ j, j + 1 ≤ Lib.bitLen (due ^^^ now) ↔ due / 2 ^ j ≠ now / 2 ^ j := fun j => by rw [← len_ge _ j hx h0, Ne, Ne, xor_div]
  have k0 := key 0
  have k6 := key 6
  have k12 := key 12
  have k18 := key 18
  have k24 := key 24
  have k64 := key 64
  have e64 : due / 2 ^ 64 = now / 2 ^ 64 := by rw [Nat.div_eq_of_lt hd, Nat.div_eq_of_lt hn]
  simp only [Nat.reducePow, Nat.div_one] at k0 k6 k12 k18 k24 k64 e64
  unfold lvl
  refine ⟨by omega, by omega, ?_, ?_, ?_, ?_, ?_⟩ <;> intro hl <;> (repeat' split at hl) <;> omega

theorem and63 (n : Nat) (h : n < 18446744073709551616) : bits .and .u64 (n : Int) 63 = ((n % 64 : Nat) : Int) := by
  have := bits_and_u64_nat n 63 h (by omega)
  rw [show ((63 : Nat) : Int) = 63 from rfl] at this
  rw [this, show (63 : Nat) = 2 ^ 6 - 1 from rfl, Nat.and_two_pow_sub_one_eq_mod]

theorem fin63 (n : Nat) (h : n < 18446744073709551616) : wrap64 (bits .and .u64 (n : Int) 63) = ((n % 64 : Nat) : Int) := by
  rw [and63 n h]; unfold wrap64; omega

set_option maxHeartbeats 2000000 in
theorem where_calls (b now due : Nat) (w : World) (hc0 : w.cell? ⟨b, 0, none⟩ = some (.int .u64 now)) (hsm : now < 18446744073709551616) (hd : due < 18446744073709551616) :
    Calls Try.prog 36 #[.pointer (some ⟨b, 0, none⟩), .int .u64 due] w fun e w' => e = .returned (.agg #[.int .i64 (whereS now due).1, .int .i64 (whereS now due).2]) ∧ Ext NoB w w' := by
  have hbw := World.block_lt_of_cell? w _ hc0
  have hal : ∀ (x y : Value), Ext NoB w (w.alloc (.cells #[x, y] 63)) := fun x y => (Ext.refl NoB w).alloc _
  by_cases h1 : due ≤ now
  · have t1 : decide (due ≤ now) = true := by simp [h1]
    have t2 : decide ((due : Int) ≤ (now : Int)) = true := by simp; omega
    have hv : Hid (whereS now due = (-1, 0)) := by show _ = _; unfold whereS; rw [if_pos h1]
    go_enter Try.func36, Try.ntmps36
    go_wp2_with fail
    exact bodyPost_ret (v := .agg #[.int .i64 (-1), .int .i64 0]) (by simp [results, Try.results36, go_sem]) rfl ⟨by rw [hv.out], by exact hal _ _⟩
  · have t1 : decide (due ≤ now) = false := by simp; omega
    have t2 : decide ((due : Int) ≤ (now : Int)) = false := by simp; omega
    obtain ⟨l1, l2, g0, g1, g2, g3, g4⟩ := lvl_len now due hsm hd (by omega)
    have hxe := Lib.hid (bits_xor_u64_nat due now hd hsm)
    have hxl := xor_lt due now hd hsm
    generalize due ^^^ now = x at *
    generalize hbl : Lib.bitLen x = bl at *
    have hbl' := Lib.hid hbl
    clear hbl
    have hv0' : lvl now due ≤ 4 := by unfold lvl; (repeat' split) <;> omega
    have hv0 : lvl now due = 0 ∨ lvl now due = 1 ∨ lvl now due = 2 ∨ lvl now due = 3 ∨ lvl now due = 4 := by omega
    clear hv0'
    have hwv : Hid (whereS now due = if lvl now due = 0 then (0, ((due % 64 : Nat) : Int)) else if lvl now due = 1 then (1, ((due / 64 % 64 : Nat) : Int)) else if lvl now due = 2 then (2, ((due / 4096 % 64 : Nat) : Int)) else if lvl now due = 3 then (3, ((due / 262144 % 64 : Nat) : Int)) else (4, 0)) := by show _ = _; unfold whereS; rw [if_neg h1]
    generalize lvl now due = l at *
    have b1 : (1 : Int) ≤ (bl : Int) := by omega
    have b2 : (bl : Int) ≤ 64 := by omega
    rcases hv0 with rfl | rfl | rfl | rfl | rfl
    · have hle : ((bl : Int) - 1) / 6 = 0 := by have := g0 rfl; omega
      clear g0 g1 g2 g3 g4
      have hf := Lib.hid (show wrap64 (bits .and .u64 (due : Int) 63) = ((due % 64 : Nat) : Int) by have := fin63 (due) (by omega); rw [← this])
      go_enter Try.func36, Try.ntmps36
      go_wp2_with fail
      rw [hxe.out]
      with_reducible refine (Try.bits_Len64 (x : Int) _ (by omega) (by omega)).mono ?_
      rintro e w1 ⟨rfl, rfl⟩
      rw [Int.toNat_natCast, hbl'.out]
      go_wp2_with fail
      rw [hf.out]
      exact bodyPost_ret (v := .agg #[.int .i64 0, .int .i64 ((due % 64 : Nat) : Int)]) (by simp [results, Try.results36, go_sem]) rfl ⟨by rw [hwv.out]; rfl, hal _ _⟩
    · have hle : ((bl : Int) - 1) / 6 = 1 := by have := g1 rfl; omega
      clear g0 g1 g2 g3 g4
      have hf := Lib.hid (show wrap64 (bits .and .u64 ((due : Int) / 64) 63) = ((due / 64 % 64 : Nat) : Int) by have := fin63 (due / 64) (by omega); rw [← this]; congr 2)
      go_enter Try.func36, Try.ntmps36
      go_wp2_with fail
      rw [hxe.out]
      with_reducible refine (Try.bits_Len64 (x : Int) _ (by omega) (by omega)).mono ?_
      rintro e w1 ⟨rfl, rfl⟩
      rw [Int.toNat_natCast, hbl'.out]
      go_wp2_with fail
      rw [hf.out]
      exact bodyPost_ret (v := .agg #[.int .i64 1, .int .i64 ((due / 64 % 64 : Nat) : Int)]) (by simp [results, Try.results36, go_sem]) rfl ⟨by rw [hwv.out]; rfl, hal _ _⟩
    · have hle : ((bl : Int) - 1) / 6 = 2 := by have := g2 rfl; omega
      clear g0 g1 g2 g3 g4
      have hf := Lib.hid (show wrap64 (bits .and .u64 ((due : Int) / 4096) 63) = ((due / 4096 % 64 : Nat) : Int) by have := fin63 (due / 4096) (by omega); rw [← this]; congr 2)
      go_enter Try.func36, Try.ntmps36
      go_wp2_with fail
      rw [hxe.out]
      with_reducible refine (Try.bits_Len64 (x : Int) _ (by omega) (by omega)).mono ?_
      rintro e w1 ⟨rfl, rfl⟩
      rw [Int.toNat_natCast, hbl'.out]
      go_wp2_with fail
      rw [hf.out]
      exact bodyPost_ret (v := .agg #[.int .i64 2, .int .i64 ((due / 4096 % 64 : Nat) : Int)]) (by simp [results, Try.results36, go_sem]) rfl ⟨by rw [hwv.out]; rfl, hal _ _⟩
    · have hle : ((bl : Int) - 1) / 6 = 3 := by have := g3 rfl; omega
      clear g0 g1 g2 g3 g4
      have hf := Lib.hid (show wrap64 (bits .and .u64 ((due : Int) / 262144) 63) = ((due / 262144 % 64 : Nat) : Int) by have := fin63 (due / 262144) (by omega); rw [← this]; congr 2)
      go_enter Try.func36, Try.ntmps36
      go_wp2_with fail
      rw [hxe.out]
      with_reducible refine (Try.bits_Len64 (x : Int) _ (by omega) (by omega)).mono ?_
      rintro e w1 ⟨rfl, rfl⟩
      rw [Int.toNat_natCast, hbl'.out]
      go_wp2_with fail
      rw [hf.out]
      exact bodyPost_ret (v := .agg #[.int .i64 3, .int .i64 ((due / 262144 % 64 : Nat) : Int)]) (by simp [results, Try.results36, go_sem]) rfl ⟨by rw [hwv.out]; rfl, hal _ _⟩
    · have hle : decide ((4 : Int) ≤ ((bl : Int) - 1) / 6) = true := by have := g4 rfl; simp; omega
      clear g0 g1 g2 g3 g4
      go_enter Try.func36, Try.ntmps36
      go_wp2_with fail
      rw [hxe.out]
      with_reducible refine (Try.bits_Len64 (x : Int) _ (by omega) (by omega)).mono ?_
      rintro e w1 ⟨rfl, rfl⟩
      rw [Int.toNat_natCast, hbl'.out]
      go_wp2_with fail
      exact bodyPost_ret (v := .agg #[.int .i64 4, .int .i64 0]) (by simp [results, Try.results36, go_sem]) rfl ⟨by rw [hwv.out]; rfl, hal _ _⟩

end Go.Proofs.Ytnobodgjabgikaa
