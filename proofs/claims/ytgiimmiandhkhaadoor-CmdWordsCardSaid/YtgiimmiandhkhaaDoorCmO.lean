/- CmdNumbers, plain: what the lines say. -/
import Derived.Test.YtgiimmiandhkhaaDoorProg
import Derived.Test.YtgiimmiandhkhaaDoorCmK
import Derived.Test.YtgiimmiandhkhaaDoorCmL
namespace Go.Proofs.YtgiimmiandhkhaaDoor
open Go.RowKit
set_option linter.unusedSimpArgs false
set_option linter.unusedVariables false

theorem dec_le_pow (k : Nat) : ∀ u : Nat, u < 10 ^ (k + 1) → (Lib.decDigits u).length ≤ k + 1 := by
  intro u hu
  rw [Lib.decDigits_length]
  induction k generalizing u with
  | zero => rw [Lib.nDigits_small (by omega)]; omega
  | succ k ih =>
    by_cases h : u < 10
    · rw [Lib.nDigits_small h]; omega
    · rw [Lib.nDigits_big h]
      have := ih (u / 10) (by rw [Nat.pow_succ] at hu ⊢; rw [Nat.pow_succ] at hu; omega)
      omega
theorem dec_32 (u : Nat) : (32 : UInt8) ∉ Lib.decDigits u := fun h => by have := (dec_dig u 32 h).1; revert this; decide
theorem numV_zero (a : List UInt8) (ha : a ≠ []) (m : Nat) : numV (48 :: a) m = none := by
  unfold numV
  rw [if_pos (.inr (.inr ⟨rfl, by simp [ha]⟩))]
theorem numV_sign (a : List UInt8) (m : Nat) : numV (45 :: a) m = none := by
  unfold numV
  split
  · rfl
  · rw [if_neg (by simp [digB])]
theorem cmdV_no {s hd : List UInt8} {tl : List (List UInt8)} {k : Int} (h : spl 32 s = hd :: tl) (hl : ¬ 1000 < s.length) (hk : kindOf hd = k) (hf : fillV k 0 (Cm.zero k) tl = none) : (cmdV s).2 = 3 := by
  subst hk
  rw [cmdV_of h hl]
  split
  · rfl
  · rw [hf]
theorem put5 (c : Cm) (w : List UInt8) : putV c 5 w = (numV w 18).map (fun (v : Nat) => { c with m := (v : Int) }) := rfl
theorem put4 (c : Cm) (w : List UInt8) : putV c 4 w = (numV w 18).map (fun (v : Nat) => { c with n := (v : Int) }) := rfl
theorem put3 (c : Cm) (w : List UInt8) : putV c 3 w = (numV w 4).map (fun (v : Nat) => { c with i := (v : Int) }) := rfl

theorem pick_fill (n : Nat) (hn : n < 10 ^ 18) : fillV 6 0 (Cm.zero 6) [Lib.decDigits n, Lib.decDigits n] = some ⟨6, 0, 0, 0, n, n, [], []⟩ := by
  have hd := numV_dec n 18 (dec_le_pow 17 n hn)
  rw [fillV, show placeOf 6 0 = 5 by decide, put5, hd]
  simp only [Option.map_some, Option.bind_some]
  rw [if_neg (by decide), fillV, show placeOf 6 (0 + 1) = 4 by decide, put4, hd]
  simp only [Option.map_some, Option.bind_some]
  rw [if_neg (by decide), fillV, if_pos (by decide)]
  rfl
theorem pick_none (w : List UInt8) (ws : List (List UInt8)) (h : numV w 18 = none) (c : Cm) : fillV 6 0 c (w :: ws) = none := by
  rw [fillV, show placeOf 6 0 = 5 by decide, put5, h]
  rfl
theorem pick_short (w : List UInt8) (c : Cm) : fillV 6 0 c [w] = none := by
  rw [fillV, show placeOf 6 0 = 5 by decide, put5]
  cases numV w 18 with
  | none => rfl
  | some v =>
    simp only [Option.map_some, Option.bind_some]
    rw [if_neg (by decide), fillV, if_neg (by decide)]
theorem cancel_fill (n : Nat) (hn : n < 10 ^ 4) : fillV 4 0 (Cm.zero 4) [Lib.decDigits n] = some ⟨4, 0, 0, n, 0, 0, [], []⟩ := by
  have hd := numV_dec n 4 (dec_le_pow 3 n hn)
  rw [fillV, show placeOf 4 0 = 3 by decide, put3, hd]
  simp only [Option.map_some, Option.bind_some]
  rw [if_neg (by decide), fillV, if_pos (by decide)]
  rfl
theorem cancel_none (w : List UInt8) (ws : List (List UInt8)) (h : numV w 4 = none) (c : Cm) : fillV 4 0 c (w :: ws) = none := by
  rw [fillV, show placeOf 4 0 = 3 by decide, put3, h]
  rfl

def pickS (a : List UInt8) : List UInt8 := [112, 105, 99, 107, 32] ++ a ++ [32] ++ a
def cancelS (b : List UInt8) : List UInt8 := [99, 97, 110, 99, 101, 108, 32] ++ b
/-- The ten lines that are refused. -/
def badS (a b : List UInt8) : List (List UInt8) := [
  [112, 105, 99, 107, 32, 48] ++ a ++ [32, 49], [112, 105, 99, 107, 32, 45] ++ a ++ [32, 49], [112, 105, 99, 107, 32] ++ a, [112, 105, 99, 107, 32, 32] ++ a ++ [32, 49],
  [114, 111, 117, 110, 100, 32, 49, 48, 48, 48, 48, 48, 48, 48, 48, 48, 48, 48, 48, 48, 48, 48, 48, 48, 48], [99, 97, 110, 99, 101, 108, 32, 49, 48, 48, 48, 48], [99, 97, 110, 99, 101, 108, 32, 48] ++ b,
  [115, 116, 97, 116, 117, 115, 32, 43, 49], [115, 116, 97, 116, 101, 32], [32, 115, 116, 97, 116, 101]]
theorem spl_pick (a : List UInt8) (ha : 32 ∉ a) (r : List UInt8) : spl 32 ([112, 105, 99, 107, 32] ++ a ++ 32 :: r) = [112, 105, 99, 107] :: a :: spl 32 r := by
  have h := spl_app 32 [112, 105, 99, 107] (by decide) (a ++ 32 :: r)
  rw [spl_app 32 a ha r] at h
  rw [← h]
  simp
theorem pick_ok (n : Nat) (hn : n < 10 ^ 18) : cmdV (pickS (Lib.decDigits n)) = (⟨6, 0, 0, 0, n, n, [], []⟩, 0) := by
  have hl := dec_le_pow 17 n hn
  have h2 := dec_32 n
  refine cmdV_ok (k := 6) (hd := [112, 105, 99, 107]) (tl := [Lib.decDigits n, Lib.decDigits n]) ?_ (by simp [pickS]; omega) (by decide) (by decide) (pick_fill n hn)
  have h := spl_pick (Lib.decDigits n) h2 (Lib.decDigits n)
  rw [spl_no 32 _ h2] at h
  rw [← h]
  simp [pickS]
theorem cancel_ok (n : Nat) (hn : n < 10 ^ 4) : cmdV (cancelS (Lib.decDigits n)) = (⟨4, 0, 0, n, 0, 0, [], []⟩, 0) := by
  have hl := dec_le_pow 3 n hn
  have h2 := dec_32 n
  refine cmdV_ok (k := 4) (hd := [99, 97, 110, 99, 101, 108]) (tl := [Lib.decDigits n]) ?_ (by simp [cancelS]; omega) (by decide) (by decide) (cancel_fill n hn)
  have h := spl_app 32 [99, 97, 110, 99, 101, 108] (by decide) (Lib.decDigits n)
  rw [spl_no 32 _ h2] at h
  rw [← h]
  simp [cancelS]
theorem bad_all (n m : Nat) (hn : n < 10 ^ 18) (hm : m < 10 ^ 4) : ∀ s ∈ badS (Lib.decDigits n) (Lib.decDigits m), (cmdV s).2 = 3 := by
  have hl := dec_le_pow 17 n hn
  have h2 := dec_32 n
  have hl' := dec_le_pow 3 m hm
  have h2' := dec_32 m
  have hne := dec_ne n
  have hne' := dec_ne m
  generalize Lib.decDigits n = a at *
  generalize Lib.decDigits m = b at *
  have hz : ∀ (x : UInt8), x ≠ 32 → (32 : UInt8) ∉ x :: a := fun x hx h => by simp at h; rcases h with h | h; exact hx h.symm; exact h2 h
  intro s hs
  simp only [badS, List.mem_cons, List.not_mem_nil, or_false] at hs
  rcases hs with rfl | rfl | rfl | rfl | rfl | rfl | rfl | rfl | rfl | rfl
  · have h := spl_pick (48 :: a) (hz 48 (by decide)) [49]
    exact cmdV_no (k := 6) (by rw [← h]; simp) (by simp; omega) (by decide) (pick_none _ _ (numV_zero a hne 18) _)
  · have h := spl_pick (45 :: a) (hz 45 (by decide)) [49]
    exact cmdV_no (k := 6) (by rw [← h]; simp) (by simp; omega) (by decide) (pick_none _ _ (numV_sign a 18) _)
  · have h := spl_app 32 [112, 105, 99, 107] (by decide) a
    rw [spl_no 32 a h2] at h
    exact cmdV_no (k := 6) (by rw [← h]; simp) (by simp; omega) (by decide) (pick_short _ _)
  · have h := spl_pick [] (by simp) (a ++ [32, 49])
    exact cmdV_no (k := 6) (by rw [← h]; simp) (by simp; omega) (by decide) (pick_none _ _ (by decide) _)
  · decide
  · decide
  · have h := spl_app 32 [99, 97, 110, 99, 101, 108] (by decide) (48 :: b)
    rw [spl_no 32 (48 :: b) (fun h => by simp at h; exact h2' h)] at h
    exact cmdV_no (k := 4) (by rw [← h]; simp) (by simp; omega) (by decide) (cancel_none _ _ (numV_zero b hne' 4) _)
  · decide
  · decide
  · decide
end Go.Proofs.YtgiimmiandhkhaaDoor
