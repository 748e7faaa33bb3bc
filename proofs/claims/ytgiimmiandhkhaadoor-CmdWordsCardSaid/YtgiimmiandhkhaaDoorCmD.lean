/- The commands: the places. Printed by gen-cmd.py. -/
import Derived.Test.YtgiimmiandhkhaaDoorProg
import Derived.Test.YtgiimmiandhkhaaDoorCmC
import Derived.Outline
namespace Go.Proofs.YtgiimmiandhkhaaDoor
open Go.RowKit
set_option linter.unusedSimpArgs false
set_option linter.unusedVariables false
attribute [local go_sem] pairV intV

theorem key_place : KeyEnc Tryd.prog 53 (pairV .i64) := pair_key (e := 3) Tryd.underlying53 Tryd.underlying3 (by kernel_rfl)
set_option maxRecDepth 100000 in
set_option maxHeartbeats 8000000 in
theorem places_calls (w : World) : Calls Tryd.prog 20 #[] w fun e w' => ∃ r m, e = .returned (.map (some r)) ∧ MapAt w' r (pairV .i64) (intV .i64) m ∧ m.Perm placesL ∧ Ext NoB w w' ∧ w.heap.size ≤ r := by
  have hmm := @run_makeMap Tryd.prog
  have m0 := (MapAt.made (ek := pairV .i64) (ev := (intV .i64)) w).keep (Ext.refl NoB _).drew nb
  go_enter Tryd.func20, Tryd.ntmps20
  go_wp2_with fail
  refine wp_region_V 49 (fun _ => True) (by kernel_rfl) ?_
  try simp only [Act.put, List.setIfInBounds_toArray, List.set_cons_zero, List.set_cons_succ]
  refine wpAnyV_take0 (i := 1) (by kernel_rfl) (by kernel_rfl) (by kernel_rfl) (by kernel_rfl) (by kernel_rfl) trivial (fun o ho => ?_)
  conv at ho => rhs; whnf
  subst ho
  refine ⟨?_, fun _ _ _ h => h, Or.inl ⟨by rfl, ?_⟩, ?_⟩
  rotate_left
  · intro w hSw
    first | (go_simp; done) | (go_simp; with_reducible rfl)
  try simp only [Act.put, List.setIfInBounds_toArray, List.set_cons_zero, List.set_cons_succ]
  refine wpAnyV_take0 (i := 3) (by kernel_rfl) (by kernel_rfl) (by kernel_rfl) (by kernel_rfl) (by kernel_rfl) trivial (fun o ho => ?_)
  conv at ho => rhs; whnf
  subst ho
  refine ⟨?_, fun _ _ _ h => h, Or.inl ⟨by rfl, ?_⟩, ?_⟩
  rotate_left
  · intro w hSw
    first | (go_simp; done) | (go_simp; with_reducible rfl)
  try simp only [Act.put, List.setIfInBounds_toArray, List.set_cons_zero, List.set_cons_succ]
  refine wpAnyV_take0 (i := 5) (by kernel_rfl) (by kernel_rfl) (by kernel_rfl) (by kernel_rfl) (by kernel_rfl) trivial (fun o ho => ?_)
  conv at ho => rhs; whnf
  subst ho
  refine ⟨?_, fun _ _ _ h => h, Or.inl ⟨by rfl, ?_⟩, ?_⟩
  rotate_left
  · intro w hSw
    first | (go_simp; done) | (go_simp; with_reducible rfl)
  try simp only [Act.put, List.setIfInBounds_toArray, List.set_cons_zero, List.set_cons_succ]
  refine wpAnyV_take0 (i := 7) (by kernel_rfl) (by kernel_rfl) (by kernel_rfl) (by kernel_rfl) (by kernel_rfl) trivial (fun o ho => ?_)
  conv at ho => rhs; whnf
  subst ho
  refine ⟨?_, fun _ _ _ h => h, Or.inl ⟨by rfl, ?_⟩, ?_⟩
  rotate_left
  · intro w hSw
    first | (go_simp; done) | (go_simp; with_reducible rfl)
  try simp only [Act.put, List.setIfInBounds_toArray, List.set_cons_zero, List.set_cons_succ]
  refine wpAnyV_take0 (i := 9) (by kernel_rfl) (by kernel_rfl) (by kernel_rfl) (by kernel_rfl) (by kernel_rfl) trivial (fun o ho => ?_)
  conv at ho => rhs; whnf
  subst ho
  refine ⟨?_, fun _ _ _ h => h, Or.inl ⟨by rfl, ?_⟩, ?_⟩
  rotate_left
  · intro w hSw
    first | (go_simp; done) | (go_simp; with_reducible rfl)
  try simp only [Act.put, List.setIfInBounds_toArray, List.set_cons_zero, List.set_cons_succ]
  refine wpAnyV_take0 (i := 11) (by kernel_rfl) (by kernel_rfl) (by kernel_rfl) (by kernel_rfl) (by kernel_rfl) trivial (fun o ho => ?_)
  conv at ho => rhs; whnf
  subst ho
  refine ⟨?_, fun _ _ _ h => h, Or.inl ⟨by rfl, ?_⟩, ?_⟩
  rotate_left
  · intro w hSw
    first | (go_simp; done) | (go_simp; with_reducible rfl)
  try simp only [Act.put, List.setIfInBounds_toArray, List.set_cons_zero, List.set_cons_succ]
  refine wpAnyV_take0 (i := 13) (by kernel_rfl) (by kernel_rfl) (by kernel_rfl) (by kernel_rfl) (by kernel_rfl) trivial (fun o ho => ?_)
  conv at ho => rhs; whnf
  subst ho
  refine ⟨?_, fun _ _ _ h => h, Or.inl ⟨by rfl, ?_⟩, ?_⟩
  rotate_left
  · intro w hSw
    first | (go_simp; done) | (go_simp; with_reducible rfl)
  try simp only [Act.put, List.setIfInBounds_toArray, List.set_cons_zero, List.set_cons_succ]
  refine wpAnyV_take0 (i := 15) (by kernel_rfl) (by kernel_rfl) (by kernel_rfl) (by kernel_rfl) (by kernel_rfl) trivial (fun o ho => ?_)
  conv at ho => rhs; whnf
  subst ho
  refine ⟨?_, fun _ _ _ h => h, Or.inl ⟨by rfl, ?_⟩, ?_⟩
  rotate_left
  · intro w hSw
    first | (go_simp; done) | (go_simp; with_reducible rfl)
  try simp only [Act.put, List.setIfInBounds_toArray, List.set_cons_zero, List.set_cons_succ]
  refine wpAnyV_take0 (i := 17) (by kernel_rfl) (by kernel_rfl) (by kernel_rfl) (by kernel_rfl) (by kernel_rfl) trivial (fun o ho => ?_)
  conv at ho => rhs; whnf
  subst ho
  refine ⟨?_, fun _ _ _ h => h, Or.inl ⟨by rfl, ?_⟩, ?_⟩
  rotate_left
  · intro w hSw
    first | (go_simp; done) | (go_simp; with_reducible rfl)
  try simp only [Act.put, List.setIfInBounds_toArray, List.set_cons_zero, List.set_cons_succ]
  refine wpAnyV_take0 (i := 19) (by kernel_rfl) (by kernel_rfl) (by kernel_rfl) (by kernel_rfl) (by kernel_rfl) trivial (fun o ho => ?_)
  conv at ho => rhs; whnf
  subst ho
  refine ⟨?_, fun _ _ _ h => h, Or.inl ⟨by rfl, ?_⟩, ?_⟩
  rotate_left
  · intro w hSw
    first | (go_simp; done) | (go_simp; with_reducible rfl)
  try simp only [Act.put, List.setIfInBounds_toArray, List.set_cons_zero, List.set_cons_succ]
  refine wpAnyV_take0 (i := 21) (by kernel_rfl) (by kernel_rfl) (by kernel_rfl) (by kernel_rfl) (by kernel_rfl) trivial (fun o ho => ?_)
  conv at ho => rhs; whnf
  subst ho
  refine ⟨?_, fun _ _ _ h => h, Or.inl ⟨by rfl, ?_⟩, ?_⟩
  rotate_left
  · intro w hSw
    first | (go_simp; done) | (go_simp; with_reducible rfl)
  try simp only [Act.put, List.setIfInBounds_toArray, List.set_cons_zero, List.set_cons_succ]
  refine wpAnyV_take0 (i := 23) (by kernel_rfl) (by kernel_rfl) (by kernel_rfl) (by kernel_rfl) (by kernel_rfl) trivial (fun o ho => ?_)
  conv at ho => rhs; whnf
  subst ho
  refine ⟨?_, fun _ _ _ h => h, Or.inl ⟨by rfl, ?_⟩, ?_⟩
  rotate_left
  · intro w hSw
    first | (go_simp; done) | (go_simp; with_reducible rfl)
  try simp only [Act.put, List.setIfInBounds_toArray, List.set_cons_zero, List.set_cons_succ]
  refine wpAnyV_take0 (i := 25) (by kernel_rfl) (by kernel_rfl) (by kernel_rfl) (by kernel_rfl) (by kernel_rfl) trivial (fun o ho => ?_)
  conv at ho => rhs; whnf
  subst ho
  refine ⟨?_, fun _ _ _ h => h, Or.inl ⟨by rfl, ?_⟩, ?_⟩
  rotate_left
  · intro w hSw
    first | (go_simp; done) | (go_simp; with_reducible rfl)
  try simp only [Act.put, List.setIfInBounds_toArray, List.set_cons_zero, List.set_cons_succ]
  refine wpAnyV_take0 (i := 27) (by kernel_rfl) (by kernel_rfl) (by kernel_rfl) (by kernel_rfl) (by kernel_rfl) trivial (fun o ho => ?_)
  conv at ho => rhs; whnf
  subst ho
  refine ⟨?_, fun _ _ _ h => h, Or.inl ⟨by rfl, ?_⟩, ?_⟩
  rotate_left
  · intro w hSw
    first | (go_simp; done) | (go_simp; with_reducible rfl)
  try simp only [Act.put, List.setIfInBounds_toArray, List.set_cons_zero, List.set_cons_succ]
  refine wpAnyV_take0 (i := 29) (by kernel_rfl) (by kernel_rfl) (by kernel_rfl) (by kernel_rfl) (by kernel_rfl) trivial (fun o ho => ?_)
  conv at ho => rhs; whnf
  subst ho
  refine ⟨?_, fun _ _ _ h => h, Or.inl ⟨by rfl, ?_⟩, ?_⟩
  rotate_left
  · intro w hSw
    first | (go_simp; done) | (go_simp; with_reducible rfl)
  try simp only [Act.put, List.setIfInBounds_toArray, List.set_cons_zero, List.set_cons_succ]
  refine wpAnyV_take0 (i := 31) (by kernel_rfl) (by kernel_rfl) (by kernel_rfl) (by kernel_rfl) (by kernel_rfl) trivial (fun o ho => ?_)
  conv at ho => rhs; whnf
  subst ho
  refine ⟨?_, fun _ _ _ h => h, Or.inl ⟨by rfl, ?_⟩, ?_⟩
  rotate_left
  · intro w hSw
    first | (go_simp; done) | (go_simp; with_reducible rfl)
  try simp only [Act.put, List.setIfInBounds_toArray, List.set_cons_zero, List.set_cons_succ]
  refine wpAnyV_take0 (i := 33) (by kernel_rfl) (by kernel_rfl) (by kernel_rfl) (by kernel_rfl) (by kernel_rfl) trivial (fun o ho => ?_)
  conv at ho => rhs; whnf
  subst ho
  refine ⟨?_, fun _ _ _ h => h, Or.inl ⟨by rfl, ?_⟩, ?_⟩
  rotate_left
  · intro w hSw
    first | (go_simp; done) | (go_simp; with_reducible rfl)
  try simp only [Act.put, List.setIfInBounds_toArray, List.set_cons_zero, List.set_cons_succ]
  refine wpAnyV_take0 (i := 35) (by kernel_rfl) (by kernel_rfl) (by kernel_rfl) (by kernel_rfl) (by kernel_rfl) trivial (fun o ho => ?_)
  conv at ho => rhs; whnf
  subst ho
  refine ⟨?_, fun _ _ _ h => h, Or.inl ⟨by rfl, ?_⟩, ?_⟩
  rotate_left
  · intro w hSw
    first | (go_simp; done) | (go_simp; with_reducible rfl)
  try simp only [Act.put, List.setIfInBounds_toArray, List.set_cons_zero, List.set_cons_succ]
  refine wpAnyV_take0 (i := 37) (by kernel_rfl) (by kernel_rfl) (by kernel_rfl) (by kernel_rfl) (by kernel_rfl) trivial (fun o ho => ?_)
  conv at ho => rhs; whnf
  subst ho
  refine ⟨?_, fun _ _ _ h => h, Or.inl ⟨by rfl, ?_⟩, ?_⟩
  rotate_left
  · intro w hSw
    first | (go_simp; done) | (go_simp; with_reducible rfl)
  try simp only [Act.put, List.setIfInBounds_toArray, List.set_cons_zero, List.set_cons_succ]
  refine wpAnyV_take0 (i := 39) (by kernel_rfl) (by kernel_rfl) (by kernel_rfl) (by kernel_rfl) (by kernel_rfl) trivial (fun o ho => ?_)
  conv at ho => rhs; whnf
  subst ho
  refine ⟨?_, fun _ _ _ h => h, Or.inl ⟨by rfl, ?_⟩, ?_⟩
  rotate_left
  · intro w hSw
    first | (go_simp; done) | (go_simp; with_reducible rfl)
  try simp only [Act.put, List.setIfInBounds_toArray, List.set_cons_zero, List.set_cons_succ]
  refine wpAnyV_take0 (i := 41) (by kernel_rfl) (by kernel_rfl) (by kernel_rfl) (by kernel_rfl) (by kernel_rfl) trivial (fun o ho => ?_)
  conv at ho => rhs; whnf
  subst ho
  refine ⟨?_, fun _ _ _ h => h, Or.inl ⟨by rfl, ?_⟩, ?_⟩
  rotate_left
  · intro w hSw
    first | (go_simp; done) | (go_simp; with_reducible rfl)
  try simp only [Act.put, List.setIfInBounds_toArray, List.set_cons_zero, List.set_cons_succ]
  refine wpAnyV_take0 (i := 43) (by kernel_rfl) (by kernel_rfl) (by kernel_rfl) (by kernel_rfl) (by kernel_rfl) trivial (fun o ho => ?_)
  conv at ho => rhs; whnf
  subst ho
  refine ⟨?_, fun _ _ _ h => h, Or.inl ⟨by rfl, ?_⟩, ?_⟩
  rotate_left
  · intro w hSw
    first | (go_simp; done) | (go_simp; with_reducible rfl)
  try simp only [Act.put, List.setIfInBounds_toArray, List.set_cons_zero, List.set_cons_succ]
  refine wpAnyV_take0 (i := 45) (by kernel_rfl) (by kernel_rfl) (by kernel_rfl) (by kernel_rfl) (by kernel_rfl) trivial (fun o ho => ?_)
  conv at ho => rhs; whnf
  subst ho
  refine ⟨?_, fun _ _ _ h => h, Or.inl ⟨by rfl, ?_⟩, ?_⟩
  rotate_left
  · intro w hSw
    first | (go_simp; done) | (go_simp; with_reducible rfl)
  try simp only [Act.put, List.setIfInBounds_toArray, List.set_cons_zero, List.set_cons_succ]
  refine wpAnyV_one (i := 0) (by kernel_rfl) (by kernel_rfl) (fun o ho K hK => ?_)
  conv at ho => rhs; whnf
  subst ho
  go_simp
  refine hK.out _ _ (Or.inr trivial) ?_
  clear hK K
  try simp only [Act.put, List.setIfInBounds_toArray, List.set_cons_zero, List.set_cons_succ]
  refine wpAnyV_ins (ek := pairV .i64) (ev := (intV .i64)) (om := .tmp 1) key_place Tryd.underlying50 _ (fun _ => trivial) rfl 2 #[true, true, true, true, true, true, true, true, true, true, true, true, true, true, true, true, true, true, true, true, true, true, true, true, true, true, true, true, true, true, true, true, true, true, true, true, true, true, true, true, true, true, true, true, true, true, true, false, false] 23 [(2, ((1, 0), 1)), (4, ((1, 1), 2)), (6, ((1, 2), 6)), (8, ((1, 3), 7)), (10, ((2, 0), 1)), (12, ((2, 1), 2)), (14, ((2, 2), 6)), (16, ((2, 3), 4)), (18, ((3, 0), 1)), (20, ((3, 1), 2)), (22, ((3, 2), 6)), (24, ((3, 3), 4)), (26, ((3, 4), 5)), (28, ((4, 0), 3)), (30, ((9, 0), 3)), (32, ((5, 0), 1)), (34, ((5, 1), 4)), (36, ((6, 0), 5)), (38, ((6, 1), 4)), (40, ((7, 0), 4)), (42, ((8, 0), 4)), (44, ((8, 1), 5)), (46, ((11, 0), 4))] #[true, true, false, true, false, true, false, true, false, true, false, true, false, true, false, true, false, true, false, true, false, true, false, true, false, true, false, true, false, true, false, true, false, true, false, true, false, true, false, true, false, true, false, true, false, true, false, false, false] _ [] rfl (by decide) (by decide) ?_ (insOnly_of (by kernel_rfl)) (fun _ _ => rfl) rfl (insL_of rfl (by kernel_rfl) (by decide)) m0 (fun w2 m2 hp hM hx => ?_)
  · intro x hx
    simp only [List.mem_cons, List.not_mem_nil, or_false] at hx
    rcases hx with rfl | rfl | rfl | rfl | rfl | rfl | rfl | rfl | rfl | rfl | rfl | rfl | rfl | rfl | rfl | rfl | rfl | rfl | rfl | rfl | rfl | rfl | rfl
    all_goals
      refine ⟨rfl, _, _, _, rfl, rfl, rfl, rfl, rfl, rfl, after_ok ?_⟩
      kernel_rfl
  · refine wpAnyV_one (i := 47) (by kernel_rfl) (by kernel_rfl) (fun o ho K hK => ?_)
    conv at ho => rhs; whnf
    subst ho
    go_simp
    refine hK.out _ _ (Or.inr trivial) ?_
    clear hK K
    try simp only [Act.put, List.setIfInBounds_toArray, List.set_cons_zero, List.set_cons_succ]
    refine wpAnyV_one (i := 48) (by kernel_rfl) (by kernel_rfl) (fun o ho K hK => ?_)
    conv at ho => rhs; whnf
    subst ho
    go_simp
    refine hK.out _ _ (Or.inr trivial) ?_
    clear hK K
    try simp only [Act.put, List.setIfInBounds_toArray, List.set_cons_zero, List.set_cons_succ]
    refine wpAnyV_done (by kernel_rfl) ?_ _
    go_wp2_with fail
    go_ret
    exact ⟨w.heap.size, m2, rfl, hM, hp, ((Ext.refl NoB w).alloc (.map #[] 0)).drew.trans hx (fun q h1 h2 => by omega), Nat.le_refl _⟩
theorem zero_int (w : World) : (zeroValue 3).run Tryd.prog w = .ok ((intV .i64) 0) w := by kernel_rfl
theorem place_look {w : World} {r : Nat} {m : List ((Int × Int) × Int)} (hM : MapAt w r (pairV .i64) (intV .i64) m) (hp : m.Perm placesL) (k i : Int) :
    (Instr.lookup 50 (.map (some r)) (.agg #[.int .i64 k, .int .i64 i]) false).run Tryd.prog w = .ok (.int .i64 (placeOf k i)) w := by
  have := hM.run_lookup key_place Tryd.underlying50 (z := (0 : Int)) zero_int (k, i) false
  simp only [Bool.false_eq_true, if_false, mget_perm hp (by decide)] at this
  exact this
theorem place_look2 {w : World} {r : Nat} {m : List ((Int × Int) × Int)} (hM : MapAt w r (pairV .i64) (intV .i64) m) (hp : m.Perm placesL) (k i : Int) :
    (Instr.lookup 50 (.map (some r)) (.agg #[.int .i64 k, .int .i64 i]) true).run Tryd.prog w = .ok (.tuple #[.int .i64 (placeOf k i), .bool (decide (placeOf k i ≠ 0))]) w := by
  have := hM.run_lookup key_place Tryd.underlying50 (z := (0 : Int)) zero_int (k, i) true
  simp only [if_true, mget_perm hp (by decide)] at this
  have hne : (mget placesL (k, i)).isSome = decide (placeOf k i ≠ 0) := by
    unfold placeOf
    cases h : mget placesL (k, i) with
    | none => rfl
    | some v =>
      have hv : v ≠ 0 := by
        have : ∀ p ∈ placesL, p.2 ≠ 0 := by decide
        exact this _ (mem_of_mget h)
      simp [hv]
  rw [← hne]
  exact this
end Go.Proofs.YtgiimmiandhkhaaDoor
