/- Masks of low bits. -/
import Derived.Test.YtgiimmiandhkhaaDoorBase
namespace Go.Proofs.YtgiimmiandhkhaaDoor
open Go.RowKit
set_option linter.unusedSimpArgs false
set_option linter.unusedVariables false

theorem i64_mask (n : Int) (m : Int) (k : Nat) (M : Int) (hM : (BitVec.ofInt 64 m).toNat = 2 ^ k - 1) (hk : (2 : Int) ^ k = M) (hd : M * (18446744073709551616 / M) = 18446744073709551616) (h1 : 1 ≤ M) (h2 : M ≤ 9223372036854775808) : bits .and .i64 n m = n % M := by
  have key : (BitVec.ofInt 64 n &&& BitVec.ofInt 64 m).toNat = (n % ((2 ^ 64 : Nat) : Int)).toNat % 2 ^ k := by
    rw [BitVec.toNat_and, BitVec.toNat_ofInt, hM, Nat.and_two_pow_sub_one_eq_mod]
  show IntKind.i64.wrap ((BitVec.ofInt 64 n &&& BitVec.ofInt 64 m).toNat : Nat) = n % M
  rw [key, IntKind.wrap_i64]
  have e1 : (((n % ((2 ^ 64 : Nat) : Int)).toNat % 2 ^ k : Nat) : Int) = n % M := by
    have h0 : 0 ≤ n % ((2 ^ 64 : Nat) : Int) := Int.emod_nonneg _ (by decide)
    rw [Int.natCast_emod, Int.toNat_of_nonneg h0]
    have : (((2 ^ k : Nat)) : Int) = M := by rw [← hk]; push_cast; rfl
    rw [this]
    have hdv : M ∣ ((2 ^ 64 : Nat) : Int) := ⟨18446744073709551616 / M, by rw [hd]; rfl⟩
    exact Int.emod_emod_of_dvd n hdv
  rw [e1]
  have h3 := Int.emod_nonneg n (show M ≠ 0 by omega)
  have h4 := Int.emod_lt_of_pos n (show 0 < M by omega)
  omega
theorem i64_and255 (n : Int) : bits .and .i64 n 255 = n % 256 := i64_mask n 255 8 256 (by decide) (by decide) (by decide) (by decide) (by decide)

end Go.Proofs.YtgiimmiandhkhaaDoor
