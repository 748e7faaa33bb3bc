/- The bodies' laws: BodySteps. -/
import Derived.Test.YtiemokaiaomdbaaDoorProg
import Derived.Test.YtiemokaiaomdbaaDoorBoS
import Derived.Test.YtiemokaiaomdbaaDoorBits
namespace Go.Proofs.YtiemokaiaomdbaaDoor
open Go.RowKit
set_option linter.unusedSimpArgs false
set_option linter.unusedVariables false

def opS (T k : Nat) : BOp := if k = T then ⟨5, 0, 0⟩ else ⟨2, ((k % 8 : Nat) : Int), 0⟩
def genS (T k : Nat) : List BOp := (List.range k).map (opS T)
theorem genS_succ (T k : Nat) : genS T (k + 1) = genS T k ++ [opS T k] := by simp [genS, List.range_succ]
theorem genS_len (T k : Nat) : (genS T k).length = k := by simp [genS]
theorem opS_fits (T k : Nat) : fitsB (opS T k) = true := by
  unfold opS
  split
  · decide
  · have : k % 8 = 0 ∨ k % 8 = 1 ∨ k % 8 = 2 ∨ k % 8 = 3 ∨ k % 8 = 4 ∨ k % 8 = 5 ∨ k % 8 = 6 ∨ k % 8 = 7 := by omega
    rcases this with h | h | h | h | h | h | h | h <;> rw [h] <;> decide
theorem genS_ok (T k : Nat) (h : k ≤ 16) : okB (genS T k) = true := by
  unfold okB
  rw [genS_len, Bool.and_eq_true, decide_eq_true_iff, List.all_eq_true]
  refine ⟨h, fun x hx => ?_⟩
  obtain ⟨i, _, rfl⟩ := List.mem_map.1 hx
  exact opS_fits T i
theorem genS_idx (T k : Nat) : (genS T k).findIdx? (fun o => decide (o.k = 5)) = if T < k then some T else none := by
  induction k with
  | zero => rfl
  | succ k ih =>
    rw [genS_succ, List.findIdx?_append, ih]
    by_cases h : T < k
    · rw [if_pos h, if_pos (by omega)]; rfl
    · rw [if_neg h]
      by_cases h2 : k = T
      · subst h2
        rw [if_pos (by omega)]
        simp [List.findIdx?_cons, opS, genS_len]
      · rw [if_neg (by omega)]
        simp [List.findIdx?_cons, opS, h2]
theorem genS_steps (T k : Nat) : stepsV (genS T k) = ((min k (T + 1) : Nat) : Int) := by
  unfold stepsV idxV
  rw [genS_idx, genS_len]
  by_cases h : T < k
  · rw [if_pos h]
    simp only []
    rw [if_neg (by omega)]
    omega
  · rw [if_neg h]
    simp only []
    rw [if_pos (by omega)]
    omega
theorem msk31 (a : Int) : ∃ T : Nat, T ≤ 31 ∧ bits .and .i64 a 31 = (T : Int) := by
  have h := i64_mask a 31 5 32 (by decide) (by decide) (by decide) (by decide) (by decide)
  exact ⟨(a % 32).toNat, by omega, by rw [h]; omega⟩
theorem msk7 (k : Nat) : bits .and .i64 (k : Int) 7 = ((k % 8 : Nat) : Int) := by
  have h := i64_mask (k : Int) 7 3 8 (by decide) (by decide) (by decide) (by decide) (by decide)
  rw [h]; omega
theorem msk17 (n : Int) : ∃ N : Nat, N ≤ 16 ∧ (bits .and .i64 n 255).tmod 17 = (N : Int) := by
  rw [i64_and255]
  have h0 : 0 ≤ n % 256 := by omega
  refine ⟨((n % 256).tmod 17).toNat, ?_, ?_⟩
  · rw [Int.tmod_eq_emod_of_nonneg h0]; omega
  · rw [Int.tmod_eq_emod_of_nonneg h0]; omega

set_option maxRecDepth 20000 in
set_option maxHeartbeats 4000000 in
theorem bsteps_calls (n a : Int) (w : World) (hG : Gl w) : Calls Tryd.prog 5 #[.int .i64 n, .int .i64 a] w fun e w' => e = .returned (.bool true) ∧ Ext NoB w w' := by
  obtain ⟨N, hN, hNe⟩ := msk17 n
  obtain ⟨T, hT, hTe⟩ := msk31 a
  go_enter Tryd.func5, Tryd.ntmps5
  go_wp2_with fail
  generalize bits .and .i64 n 255 = n1
  clear hNe hTe
  go_loopw [5, 6] (fun v i wr => ∃ (k : Nat) (g : Option Nat), k ≤ N ∧ i = .int .i64 k ∧ SlO wr 23 3 opB g v (genS T k) ∧ Ext NoB w wr ∧ (∀ q, g = some q → w.heap.size ≤ q)) (fun _ i _ => N - (intOf i).toNat)
  case atStart => exact ⟨0, none, Nat.zero_le _, rfl, SlO.nil _ _ _ _, Ext.refl _ _, by simp⟩
  case round =>
    obtain ⟨k, g, hk, rfl, hO, hext, hg⟩ := hrel
    have hlk := genS_len T k
    by_cases hlt : k < N
    · have t0 : decide (k < N) = true := by simp [hlt]
      have hb1 : ((genS T k).length + 1) * 24 ≤ 140737488355328 := by rw [hlk]; omega
      have hb2 : (genS T k).length + 1 ≤ maxLen := by rw [hlk]; unfold maxLen; omega
      have h7 := msk7 k
      have hsucc := Lib.hid (genS_succ T k)
      clear hlk
      by_cases hkT : k = T
      · have t1 : ((k : Int) == (T : Int)) = true := by rw [hkT]; simp
        have t1' : (k == T) = true := by rw [hkT]; simp
        have hop : Hid (opS T k = ⟨5, 0, 0⟩) := by show _ = _; unfold opS; rw [if_pos hkT]
        have hkT' := Lib.hid hkT
        clear hkT
        go_wp2_with (first
          | (refine wpList_storeO (wr.heap.size) 5 0 0 _ rfl _ _ rfl rfl rfl (alloc_at wr _) rfl (fun w9 hb9 hx9 => ?_); have p0 := cell_of_row w9 _ 0 _ _ (0, 0) hb9; have p1 := cell_of_row w9 _ 1 _ _ (0, 0) hb9; have p2 := cell_of_row w9 _ 2 _ _ (0, 0) hb9; have hx19 := ((Ext.refl NoB wr).alloc _).trans hx9 (fun i hi e => (by omega)))
          | (at_builtin; go_loud (refine wpList_appendO (ys := [⟨5, 0, 0⟩]) rfl rfl elem_op opB_len opB_one (hO.keep (hx19.alloc _) (fun _ _ => nb)) rfl (SlR.one' (alloc_at' _ _ _ (by simp)) rfl) rfl rfl hb1 hb2 (fun v' w5 g' hO' hx5 hg' => ?_))))
        go_roundw
        case rel =>
          refine ⟨k + 1, g', by omega, by go_num, by rw [hsucc.out, hop.out]; exact hO', (hext.trans (hx19.alloc _) (fun _ _ e => e)).trans hx5 (fun i hi e => absurd (hg i e) (by omega)), fun q hq => ?_⟩
          rcases hg' with rfl | rfl
          · exact hg q hq
          · simp only [Option.some.injEq] at hq
            have h1 := hext.size
            have h2 := hx19.size
            simp at hq
            omega
        case measure => simp [intOf]; omega
      · have t1 : ((k : Int) == (T : Int)) = false := by rw [beq_eq_false_iff_ne]; omega
        have t1' : (k == T) = false := by rw [beq_eq_false_iff_ne]; omega
        have hop : Hid (opS T k = ⟨2, ((k % 8 : Nat) : Int), 0⟩) := by show _ = _; unfold opS; rw [if_neg hkT]
        generalize k % 8 = k8 at *
        go_wp2_with (first
          | (at_builtin; go_loud (refine wpList_appendO (ys := [⟨2, (k8 : Int), 0⟩]) rfl rfl elem_op opB_len opB_one (hO.keep (((Ext.refl NoB wr).alloc _).alloc _) (fun _ _ => nb)) rfl (SlR.one' (alloc_at' _ _ _ (by simp)) rfl) rfl rfl hb1 hb2 (fun v' w5 g' hO' hx5 hg' => ?_))))
        go_roundw
        case rel =>
          refine ⟨k + 1, g', by omega, by go_num, by rw [hsucc.out, hop.out]; exact hO', ((hext.alloc _).alloc _).trans hx5 (fun i hi e => absurd (hg i e) (by omega)), fun q hq => ?_⟩
          rcases hg' with rfl | rfl
          · exact hg q hq
          · simp only [Option.some.injEq] at hq
            have h1 := hext.size
            simp at hq
            omega
        case measure => simp [intOf]; omega
    · have t0 : decide (k < N) = false := by simp [hlt]
      obtain rfl : k = N := by omega
      clear hlk
      have hok := genS_ok T k hN
      have hstp := genS_steps T k
      generalize genS T k = l at *
      obtain ⟨A, c, b, o, rfl, hr, hg2⟩ := hO.read
      go_wp2_with fail
      refine (text_calls A c b o l wr (hG.keep hext) hr).mono ?_
      rintro e w2 ⟨rfl, hx2⟩
      rw [hok, if_pos rfl, if_pos rfl]
      go_wp2_with fail
      refine (parse_mk l hok w2 ((hG.keep hext).keep hx2)).mono ?_
      rintro e w3 ⟨v3, g3, rfl, hO3, hx3, hg3⟩
      obtain ⟨A3, c3, b3, o3, rfl, hr3, hg32⟩ := hO3.read
      have hx23 := hx2.trans hx3 (fun _ _ e => e)
      have hr' := hr.keep hx23 nb1
      go_wp2_with fail
      refine (ok_calls A c b o l w3 hr').mono ?_
      rintro e w4 ⟨rfl, hx4⟩
      rw [hok]
      have hr4 := hr'.keep hx4 nb1
      go_wp2_with fail
      refine (steps_calls A c b o l w4 hr4).mono ?_
      rintro e w5 ⟨rfl, hx5⟩
      have hr5 := hr4.keep hx5 nb1
      have hs5 := (hr3.keep hx4 nb1).keep hx5 nb1
      rw [hstp]
      go_wp2_with fail
      refine (same_calls A c b o l A3 c3 b3 o3 l w5 hr5 hs5).mono ?_
      rintro e w6 ⟨rfl, hx6⟩
      rw [show decide (l = l) = true by simp]
      have hr6 := hr5.keep hx6 nb1
      have hs6 := hs5.keep hx6 nb1
      go_wp2_with fail
      refine (steps_calls A3 c3 b3 o3 l w6 hs6).mono ?_
      rintro e w7 ⟨rfl, hx7⟩
      have hr7 := hr6.keep hx7 nb1
      go_wp2_with fail
      refine (steps_calls A c b o l w7 hr7).mono ?_
      rintro e w8 ⟨rfl, hx8⟩
      rw [hstp]
      have hx08 := ((((((hext.trans hx23 (fun _ _ e => e)).trans hx4 (fun _ _ e => e)).trans hx5 (fun _ _ e => e)).trans hx6 (fun _ _ e => e)).trans hx7 (fun _ _ e => e)).trans hx8 (fun _ _ e => e))
      generalize ((min k (T + 1) : Nat) : Int) = st at *
      go_wp2_with fail
      refine (awake_calls w8 (hG.keep hx08)).mono ?_
      rintro e w9 ⟨rfl, hx9⟩
      go_wp2_with fail
      go_ret
      exact ⟨rfl, hx08.trans hx9 (fun _ _ e => e)⟩
end Go.Proofs.YtiemokaiaomdbaaDoor
