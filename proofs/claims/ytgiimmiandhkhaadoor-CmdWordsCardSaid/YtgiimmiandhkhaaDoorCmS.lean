/- CmdWords: its closure: a line of so many words. -/
import Derived.Test.YtgiimmiandhkhaaDoorProg
import Derived.Test.YtgiimmiandhkhaaDoorCmO
import Derived.Test.YtgiimmiandhkhaaDoorBits
namespace Go.Proofs.YtgiimmiandhkhaaDoor
open Go.RowKit
set_option linter.unusedSimpArgs false
set_option linter.unusedVariables false

def bodyW : List UInt8 := [110, 111, 112, 59, 115, 117, 98, 109, 105, 116, 44, 51]
def argW (bd : Bool) (g : Nat → Nat) (i : Nat) : List UInt8 := if bd = true ∧ i = 2 then bodyW else [UInt8.ofNat (48 + g i)]
def lineW (word : List UInt8) (bd : Bool) (g : Nat → Nat) (n : Nat) : List UInt8 := word ++ (List.range n).flatMap (fun i => 32 :: argW bd g i)
theorem lineW_zero (word : List UInt8) (bd : Bool) (g : Nat → Nat) : lineW word bd g 0 = word := by simp [lineW]
theorem lineW_succ (word : List UInt8) (bd : Bool) (g : Nat → Nat) (n : Nat) : lineW word bd g (n + 1) = lineW word bd g n ++ (32 :: argW bd g n) := by simp [lineW, List.range_succ]
theorem argW_len (bd : Bool) (g : Nat → Nat) (i : Nat) : (argW bd g i).length ≤ 12 := by 
  unfold argW
  split
  · decide
  · simp
theorem lineW_len (word : List UInt8) (bd : Bool) (g : Nat → Nat) : ∀ n, (lineW word bd g n).length ≤ word.length + 13 * n
  | 0 => by rw [lineW_zero]; omega
  | n + 1 => by
    have := lineW_len word bd g n
    have h2 := argW_len bd g n
    rw [lineW_succ, List.length_append, List.length_cons]
    omega
theorem msk3 (x : Int) : ∃ M : Nat, M < 8 ∧ bits .and .i64 x 7 = (M : Int) := by
  refine ⟨(x % 8).toNat, by omega, ?_⟩
  rw [i64_mask x 7 3 8 (by decide) (by decide) (by decide) (by decide) (by decide)]
  omega
theorem msk5 (x : Int) : ∃ M : Nat, M < 32 ∧ bits .and .i64 x 31 = (M : Int) := by
  refine ⟨(x % 32).toNat, by omega, ?_⟩
  rw [i64_mask x 31 5 32 (by decide) (by decide) (by decide) (by decide) (by decide)]
  omega

set_option maxRecDepth 20000 in
set_option maxHeartbeats 4000000 in
theorem lineW_calls (g : Nat → Nat) (word : List UInt8) (hw : word.length ≤ 8) (bd : Bool) (W : Int) (br bw : Nat) (n : Nat) (hn : n ≤ 31) (w : World) (hg : ∀ k sh : Nat, bits .and .i64 (3 * (k : Int)) 31 = (sh : Int) → bits .and .i64 (W / 2 ^ sh) 7 = (g k : Int)) (hg8 : ∀ k, g k < 8)
    (r0 : w.cell? ⟨br, 0, none⟩ = some (.string (mk word))) (r2 : w.cell? ⟨br, 2, none⟩ = some (.bool bd)) (rw0 : w.cell? ⟨bw, 0, none⟩ = some (.int .i64 W)) :
    Calls Tryd.prog 5 #[.int .i64 (n : Int), .pointer (some ⟨br, 0, none⟩), .pointer (some ⟨bw, 0, none⟩)] w fun e w' => e = .returned (.string (mk (lineW word bd g n))) ∧ Ext NoB w w' := by
  go_enter Tryd.func5, Tryd.ntmps5
  go_wp2_with fail
  go_loopw [5, 6] (fun s i wr => ∃ k : Nat, k ≤ n ∧ i = .int .i64 k ∧ s = .string (mk (lineW word bd g k)) ∧ Ext NoB w wr) (fun _ i _ => n - (intOf i).toNat)
  case atStart => exact ⟨0, by omega, rfl, by rw [lineW_zero], Ext.refl _ _⟩
  case round =>
    obtain ⟨k, hk, rfl, rfl, hext⟩ := hrel
    have q2 := hext.cell r2 nb
    have qw := hext.cell rw0 nb
    by_cases hlt : k < n
    · have t0 : decide (k < n) = true := by simp [hlt]
      have t0' : decide ((k : Int) < n) = true := by simp; omega
      have hsucc := Lib.hid (lineW_succ word bd g k)
      have hlen := lineW_len word bd g k
      generalize lineW word bd g k = L at *
      obtain ⟨sh, hsh, esh⟩ := msk5 (3 * (k : Int))
      have hgk := hg k _ esh
      have hg8 := hg8 k
      by_cases hb : bd = true ∧ k = 2
      · obtain ⟨rfl, rfl⟩ := hb
        have e1 : mk L ++ (⟨#[32, 110, 111, 112, 59, 115, 117, 98, 109, 105, 116, 44, 51]⟩ : ByteArray) = mk (L ++ (32 :: argW true g 2)) := mk_cat L (32 :: bodyW)
        have z1 : ¬ 9223372036854775807 < (mk L).size + 13 := by rw [mk_size]; omega
        rw [← hsucc.out] at e1
        generalize hLe : lineW word true g (2 + 1) = L' at e1
        replace hLe := Lib.hid hLe
        go_wp2_with fail
        go_roundw
        case rel => exact ⟨2 + 1, by omega, by go_num, by rw [hLe.out], hext⟩
        case measure => simp [intOf]; omega
      · have hbd : bd = true → ¬ k = 2 := fun h1 h2 => hb ⟨h1, h2⟩
        have harg : argW bd g k = [UInt8.ofNat (48 + g k)] := by unfold argW; rw [if_neg hb]
        rw [harg] at hsucc
        have hnum := Num_calls (g k : Int) (by omega) (by omega)
        rw [Lib.itoa_nonneg, dec_rec, if_pos (by omega)] at hnum
        replace hnum := Lib.hid hnum
        generalize UInt8.ofNat (48 + g k) = dg at *
        have e1 : mk L ++ (⟨#[32]⟩ : ByteArray) = mk (L ++ [32]) := mk_cat L [32]
        have e2 : mk (L ++ [32]) ++ mk [dg] = mk ((L ++ [32]) ++ [dg]) := mk_cat _ _
        have e3 : (L ++ [32]) ++ [dg] = L ++ [32, dg] := by simp
        rw [e3, ← hsucc.out] at e2
        clear e3 harg
        have z1 : ¬ 9223372036854775807 < (mk L).size + 1 := by rw [mk_size]; omega
        have z2 : ¬ 9223372036854775807 < (mk (L ++ [32])).size + (mk [dg]).size := by rw [mk_size, mk_size, List.length_append, List.length_singleton, List.length_singleton]; omega
        have hL' : Hid (lineW word bd g (k + 1) = lineW word bd g (k + 1)) := rfl
        generalize hLe : lineW word bd g (k + 1) = L' at e2
        replace hLe := Lib.hid hLe
        clear hsucc hL'
        cases bd with
        | false =>
          go_wp2_with fail
          refine (hnum.out wr).mono ?_
          rintro e w9 ⟨rfl, hx9⟩
          go_wp2_with fail
          go_roundw
          case rel => exact ⟨k + 1, by omega, by go_num, by rw [hLe.out], hext.trans hx9 (fun _ _ e => e)⟩
          case measure => simp [intOf]; omega
        | true =>
          have hk2 := hbd rfl
          have t1 : (k == 2) = false := by simp; exact hk2
          have t1' : ((k : Int) == 2) = false := by simp; omega
          go_wp2_with fail
          refine (hnum.out wr).mono ?_
          rintro e w9 ⟨rfl, hx9⟩
          go_wp2_with fail
          go_roundw
          case rel => exact ⟨k + 1, by omega, by go_num, by rw [hLe.out], hext.trans hx9 (fun _ _ e => e)⟩
          case measure => simp [intOf]; omega
    · have t0 : decide (k < n) = false := by simp; omega
      have t0' : decide ((k : Int) < n) = false := by simp; omega
      obtain rfl : k = n := by omega
      go_wp2_with fail
      go_ret
      exact ⟨rfl, hext⟩
end Go.Proofs.YtgiimmiandhkhaaDoor
