/- The bodies: the reference's SameBody; texts that are refused. -/
import Derived.Test.YtgiimmiandhkhaaDoorProg
import Derived.Test.YtgiimmiandhkhaaDoorBoS
import Derived.BigQuiet
namespace Go.Proofs.YtgiimmiandhkhaaDoor
open Go.RowKit
set_option linter.unusedSimpArgs false
set_option linter.unusedVariables false

theorem spl_end (c : UInt8) : ∀ l : List UInt8, spl c (l ++ [c]) = spl c l ++ [[]]
  | [] => by simp [spl]
  | b :: l => by
    have ih := spl_end c l
    rw [List.cons_append, spl, spl, ih]
    split
    · rfl
    · cases h : spl c l with
      | nil => exact absurd h (spl_ne c l)
      | cons y r => rfl
theorem read_empty (x : List UInt8) : (readS (32 :: x)).2 = false ∧ (readS []).2 = false := by
  have key : ∀ B : List ByteArray, B[0]? = some (mk []) → (readB B).2 = false := by
    intro B hB
    unfold readB
    split
    · rfl
    · rw [hB, words_none]
      decide
  constructor
  · unfold readS
    exact key _ (by rw [spl, if_pos rfl]; rfl)
  · unfold readS
    exact key _ rfl
/-- Another separator behind it. -/
theorem parse_semi (t : List UInt8) (h : t.length < 400) : parseV (t ++ [59]) = ([], 3) := by
  have hne : t ++ [59] ≠ [45] := by
    intro e
    cases t with
    | nil => exact absurd e (by decide)
    | cons b r => have := congrArg List.length e; simp at this
  unfold parseV
  rw [if_neg (by rw [List.length_append, List.length_singleton]; omega), if_neg hne, spl_end, readAll_bad _ _ _ (read_empty []).2]
/-- A space ahead of it. -/
theorem parse_space (t : List UInt8) (h : t.length < 400) : parseV (32 :: t) = ([], 3) := by
  have hs : spl 59 (32 :: t) = consHd 32 (spl 59 t) := by rw [spl, if_neg (by decide)]
  unfold parseV
  rw [if_neg (by rw [List.length_cons]; omega), if_neg (by intro e; exact absurd (List.cons.inj e).1 (by decide)), hs]
  cases hh : spl 59 t with
  | nil => exact absurd hh (spl_ne 59 t)
  | cons y r =>
    have := readAll_bad [] (32 :: y) r (read_empty y).1
    rw [List.nil_append] at this
    simp only [consHd, this]
theorem text_short (l : List BOp) (h : okB l = true) : (textL l).length < 400 := by
  unfold okB at h
  rw [Bool.and_eq_true, decide_eq_true_iff] at h
  unfold textL
  split
  · simp
  · have := join_len [59] (l.map toldL) 19 (fun x hx => by
      obtain ⟨y, hy, rfl⟩ := List.mem_map.1 hx
      exact (told_fine y (List.all_eq_true.1 h.2 y hy)).2.2) (by simp)
    rw [List.length_map] at this
    omega
end Go.Proofs.YtgiimmiandhkhaaDoor
