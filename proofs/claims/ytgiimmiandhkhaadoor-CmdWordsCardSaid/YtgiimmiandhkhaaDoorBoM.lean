/- The bodies: the reference's Number. -/
import Derived.Test.YtgiimmiandhkhaaDoorProg
import Derived.Test.YtgiimmiandhkhaaDoorBoN
namespace Go.Proofs.YtgiimmiandhkhaaDoor
open Go.RowKit
set_option linter.unusedSimpArgs false
set_option linter.unusedVariables false

def digB (b : UInt8) : Bool := decide (48 ≤ b.toNat) && decide (b.toNat ≤ 57)
def valL (l : List UInt8) : Nat := l.foldl (fun n b => 10 * n + (b.toNat - 48)) 0
/-- A word's number. -/
def numV (l : List UInt8) (most : Nat) : Option Nat :=
  if l = [] ∨ most < l.length ∨ (l.head? = some 48 ∧ l ≠ [48]) then none
  else if l.all digB then some (valL l) else none
theorem valL_snoc (l : List UInt8) (b : UInt8) : valL (l ++ [b]) = 10 * valL l + (b.toNat - 48) := by simp [valL]
theorem fold_lt : ∀ (l : List UInt8) (n : Nat), l.all digB = true → l.foldl (fun n b => 10 * n + (b.toNat - 48)) n < (n + 1) * 10 ^ l.length
  | [], n, _ => by simp
  | b :: r, n, h => by
    rw [List.all_cons, Bool.and_eq_true] at h
    have hb := h.1
    simp only [digB, Bool.and_eq_true, decide_eq_true_iff] at hb
    have ih := fold_lt r (10 * n + (b.toNat - 48)) h.2
    rw [List.foldl_cons, List.length_cons, Nat.pow_succ]
    refine Nat.lt_of_lt_of_le ih ?_
    have h1 : 10 * n + (b.toNat - 48) + 1 ≤ (n + 1) * 10 := by omega
    calc (10 * n + (b.toNat - 48) + 1) * 10 ^ r.length ≤ ((n + 1) * 10) * 10 ^ r.length := Nat.mul_le_mul_right _ h1
      _ = (n + 1) * (10 ^ r.length * 10) := by rw [Nat.mul_assoc, Nat.mul_comm 10]
theorem valL_lt (l : List UInt8) (h : l.all digB = true) : valL l < 10 ^ l.length := by
  have := fold_lt l 0 h
  simpa [valL] using this
/-- A numeral's value. -/
theorem valL_dec : ∀ u : Nat, valL (Lib.decDigits u) = u := by
  intro u
  induction u using Nat.strongRecOn with
  | ind u ih =>
    rw [dec_rec]
    split
    · have h := dig_nat (d := u) (by omega)
      simp only [valL, List.foldl_cons, List.foldl_nil, h]
      omega
    · have h := dig_nat (d := u % 10) (by omega)
      rw [valL_snoc, ih (u / 10) (by omega), h]
      omega
theorem byte_dig (b : UInt8) (h : digB b = true) : UInt8.ofNat (48 + (b.toNat - 48)) = b := by
  simp only [digB, Bool.and_eq_true, decide_eq_true_iff] at h
  apply UInt8.toNat_inj.1
  rw [dig_nat (by omega)]
  omega
/-- A text of digits that does not begin with a 0 is its value's numeral. -/
theorem dec_val : ∀ (m : Nat) (l : List UInt8), l.length = m → l ≠ [] → l.all digB = true → (l.head? = some 48 → l = [48]) → Lib.decDigits (valL l) = l ∧ (l ≠ [48] → 1 ≤ valL l) := by
  intro m
  induction m with
  | zero => intro l hl hne; exact absurd (List.eq_nil_of_length_eq_zero hl) hne
  | succ m ih =>
    intro l hl hne hd hz
    obtain ⟨r, b, rfl⟩ : ∃ r b, l = r ++ [b] := ⟨l.dropLast, l.getLast hne, (List.dropLast_concat_getLast hne).symm⟩
    rw [List.all_append, Bool.and_eq_true] at hd
    have hb : digB b = true := by simpa using hd.2
    have hb' := byte_dig b hb
    have hbn := hb
    simp only [digB, Bool.and_eq_true, decide_eq_true_iff] at hbn
    rw [valL_snoc]
    cases r with
    | nil =>
      refine ⟨?_, fun h => ?_⟩
      · rw [show valL [] = 0 from rfl, dec_rec, if_pos (by omega), Nat.mul_zero, Nat.zero_add, hb']; rfl
      · have : b ≠ 48 := fun e => h (by rw [e]; rfl)
        have : b.toNat ≠ 48 := fun e => this (UInt8.toNat_inj.1 e)
        omega
    | cons x r =>
      have hh : x ≠ 48 := fun e => by
        have := hz (by rw [e]; rfl)
        have := congrArg List.length this
        simp at this
      have hr := ih (x :: r) (by simp at hl ⊢; omega) (by simp) hd.1 (fun e => absurd (Option.some.inj e) hh)
      have h1 := hr.2 (fun e => hh (List.cons.inj e).1)
      refine ⟨?_, fun _ => by omega⟩
      rw [dec_rec, if_neg (by omega), show (10 * valL (x :: r) + (b.toNat - 48)) / 10 = valL (x :: r) by omega, show (10 * valL (x :: r) + (b.toNat - 48)) % 10 = b.toNat - 48 by omega, hr.1, hb']
end Go.Proofs.YtgiimmiandhkhaaDoor
