/- The bodies: the reference's Words. -/
import Derived.Test.YtgiimmiandhkhaaGreatDoorProg
import Derived.Test.YtgiimmiandhkhaaGreatDoorBoQ
namespace Go.Proofs.YtgiimmiandhkhaaGreatDoor
open Go.RowKit
set_option linter.unusedSimpArgs false
set_option linter.unusedVariables false

def glue (w : List UInt8) : List (List UInt8) → List (List UInt8)
  | [] => [w]
  | x :: r => (w ++ x) :: r
theorem glue_nil (c : UInt8) (w : List UInt8) : glue w (spl c []) = [w] := by simp [spl, glue]
theorem glue_eq (c : UInt8) (w l : List UInt8) : glue w (spl c (c :: l)) = w :: glue [] (spl c l) := by
  rw [spl, if_pos rfl]
  cases h : spl c l with
  | nil => exact absurd h (spl_ne c l)
  | cons x r => simp [glue]
theorem glue_ne {b c : UInt8} (h : ¬ b = c) (w l : List UInt8) : glue w (spl c (b :: l)) = glue (w ++ [b]) (spl c l) := by
  rw [spl, if_neg h]
  cases hs : spl c l with
  | nil => exact absurd hs (spl_ne c l)
  | cons x r => simp [glue, consHd]
theorem glue_start (c : UInt8) (l : List UInt8) : glue [] (spl c l) = spl c l := by
  cases h : spl c l with
  | nil => exact absurd h (spl_ne c l)
  | cons x r => simp [glue]

set_option maxRecDepth 20000 in
set_option maxHeartbeats 4000000 in
theorem wordsR_calls (s : ByteArray) (c : UInt8) (hs : s.size ≤ 1000000) (w : World) : Calls Tryz.prog 16 #[.string s, .int .u8 (c.toNat : Int)] w fun e w' => ∃ v g B, e = .returned v ∧ B.map (fun x : ByteArray => x.data.toList) = spl c s.data.toList ∧ SlO w' 9 1 strE g v B ∧ Ext NoB w w' ∧ (∀ q, g = some q → w.heap.size ≤ q) := by
  go_enter Tryz.func16, Tryz.ntmps16
  go_wp2_with fail
  go_loopw [5, 6, 7] (fun ov sv i wr => ∃ (k : Nat) (g : Option Nat) (B : List ByteArray) (sl : List UInt8), k ≤ s.size ∧ i = .int .i64 k ∧ sv = .string (mk sl) ∧ SlO wr 9 1 strE g ov B ∧ Hid (B.map (fun x : ByteArray => x.data.toList) ++ glue sl (spl c (s.data.toList.drop k)) = spl c s.data.toList) ∧ Ext NoB w wr ∧ (∀ q, g = some q → w.heap.size ≤ q) ∧ B.length ≤ k ∧ sl.length ≤ k) (fun _ _ i _ => s.size - (intOf i).toNat)
  case atStart => exact ⟨0, none, [], [], Nat.zero_le _, rfl, rfl, SlO.nil _ _ _ _, by show _ = _; rw [List.drop_zero, glue_start]; rfl, Ext.refl _ _, by simp, Nat.le_refl _, Nat.le_refl _⟩
  case round =>
    obtain ⟨k, g, B, sl, hk, rfl, rfl, hO, hinv, hext, hg, hBl, hsl⟩ := hrel
    by_cases hlt : k < s.size
    · have t0 : decide (k < s.size) = true := by simp [hlt]
      have hlt' : k < s.data.toList.length := by rw [Array.length_toList]; exact hlt
      have hdr : s.data.toList.drop k = s[k] :: s.data.toList.drop (k + 1) := by
        rw [List.drop_eq_getElem_cons hlt']; rfl
      have hdrH := Lib.hid hdr
      clear hdr
      by_cases hc : s[k] = c
      · have t1 : (((s[k].toNat : Nat) : Int) == ((c.toNat : Nat) : Int)) = true := by rw [hc]; simp
        have hnext : Hid ((B ++ [mk sl]).map (fun x : ByteArray => x.data.toList) ++ glue [] (spl c (s.data.toList.drop (k + 1))) = spl c s.data.toList) := by
          show _ = _
          rw [← hinv.out, hdrH.out, hc, glue_eq, List.map_append, List.append_assoc]
          simp [mk]
        have hb1 : (B.length + 1) * 16 ≤ 140737488355328 := by omega
        have hb2 : B.length + 1 ≤ maxLen := by unfold maxLen; omega
        go_wp2_with (first
          | (at_builtin; go_loud (refine wpList_appendO (ys := [mk sl]) rfl rfl elem_str strE_len strE_one (hO.keep ((Ext.refl NoB wr).alloc _) (fun _ _ => nb)) rfl (SlR.one' (alloc_at' _ _ _ (by simp)) rfl) rfl rfl hb1 hb2 (fun v' w5 g' hO' hx5 hg' => ?_))))
        go_roundw
        case rel =>
          refine ⟨k + 1, g', B ++ [mk sl], [], by omega, by go_num, rfl, hO', hnext.out, (hext.alloc _).trans hx5 (fun i hi e => absurd (hg i e) (by omega)), fun q hq => ?_, by simp; omega, by simp⟩
          rcases hg' with rfl | rfl
          · exact hg q hq
          · simp only [Option.some.injEq] at hq
            have h1 := hext.size
            simp at hq
            omega
        case measure => simp [intOf]; omega
      · have t1 : (((s[k].toNat : Nat) : Int) == ((c.toNat : Nat) : Int)) = false := by
          rw [beq_eq_false_iff_ne]
          intro e
          exact hc (UInt8.toNat_inj.1 (by omega))
        have hex : s.extract k (k + 1) = mk [s[k]] := by
          apply ByteArray.ext
          apply Array.toList_inj.1
          rw [Lib.extract_data]
          show (s.data.toList.drop k).take (k + 1 - k) = [s[k]]
          rw [hdrH.out, show k + 1 - k = 1 by omega]
          rfl
        have hrun : ∀ w' : World, (Instr.slice 9 (.string s) (some (.int .i64 (k : Int))) (some (.int .i64 ((k : Int) + 1))) none).run Tryz.prog w' = .ok (.string (mk [s[k]])) w' := by
          intro w'
          rw [run_slice_string (P := Tryz.prog) (w := w') (h := Tryz.underlying9) (h0 := by omega) (h1 := by omega) (h2 := by omega), ← hex]
          congr 3
        have hnext : Hid (B.map (fun x : ByteArray => x.data.toList) ++ glue (sl ++ [s[k]]) (spl c (s.data.toList.drop (k + 1))) = spl c s.data.toList) := by
          show _ = _
          rw [← hinv.out, hdrH.out, glue_ne hc]
        have c1 := mk_cat sl [s[k]]
        have z1 : ¬ 9223372036854775807 < (mk sl).size + (mk [s[k]]).size := by rw [mk_size, mk_size, List.length_singleton]; omega
        generalize hS : mk (sl ++ [s[k]]) = S2 at *
        have hS' := Lib.hid hS
        clear hS hc
        go_wp2_with fail
        go_roundw
        case rel => exact ⟨k + 1, g, B, sl ++ [s[k]], by omega, by go_num, by rw [hS'.out], hO, hnext.out, hext, hg, by omega, by simp; omega⟩
        case measure => simp [intOf]; omega
    · have t0 : decide (k < s.size) = false := by simp [hlt]
      obtain rfl : k = s.size := by omega
      have hfin : Hid ((B ++ [mk sl]).map (fun x : ByteArray => x.data.toList) = spl c s.data.toList) := by
        show _ = _
        rw [← hinv.out, List.drop_of_length_le (by rw [Array.length_toList]; exact Nat.le_refl _), glue_nil, List.map_append]
        simp [mk]
      have hb1 : (B.length + 1) * 16 ≤ 140737488355328 := by omega
      have hb2 : B.length + 1 ≤ maxLen := by unfold maxLen; omega
      go_wp2_with (first
        | (at_builtin; go_loud (refine wpList_appendO (ys := [mk sl]) rfl rfl elem_str strE_len strE_one (hO.keep ((Ext.refl NoB wr).alloc _) (fun _ _ => nb)) rfl (SlR.one' (alloc_at' _ _ _ (by simp)) rfl) rfl rfl hb1 hb2 (fun v' w5 g' hO' hx5 hg' => ?_))))
      go_ret
      refine ⟨v', g', B ++ [mk sl], rfl, hfin.out, hO', (hext.alloc _).trans hx5 (fun i hi e => absurd (hg i e) (by omega)), fun q hq => ?_⟩
      rcases hg' with rfl | rfl
      · exact hg q hq
      · simp only [Option.some.injEq] at hq
        have h1 := hext.size
        simp at hq
        omega
end Go.Proofs.YtgiimmiandhkhaaGreatDoor
