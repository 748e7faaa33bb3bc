/- The bodies' laws: BodyBounds. -/
import Derived.Test.YtiemokaiaomdbaaDoorProg
import Derived.Test.YtiemokaiaomdbaaDoorBoT
import Derived.Test.YtiemokaiaomdbaaDoorBoU
namespace Go.Proofs.YtiemokaiaomdbaaDoor
open Go.RowKit
set_option linter.unusedSimpArgs false
set_option linter.unusedVariables false

theorem frz0 {w : World} {b off : Nat} {cs : Array Value} {E : TypeId} (h : w.heap[b]? = some (.cells cs E (0, 0))) : w.frozen? ⟨b, off, none⟩ = false := by simp [World.frozen?, h]
theorem msk31n (a : Int) : ∃ T : Nat, T ≤ 31 ∧ bits .and .i64 a 31 = (T : Int) := msk31 a
theorem msk3 (a : Int) : bits .and .i64 a 3 = 0 ∨ bits .and .i64 a 3 = 1 ∨ bits .and .i64 a 3 = 2 ∨ bits .and .i64 a 3 = 3 := by
  have h := i64_mask a 3 2 4 (by decide) (by decide) (by decide) (by decide) (by decide)
  rw [h]; omega
theorem parse_bad (t : List UInt8) (h : parseV t = ([], 3)) (w : World) (hG : Gl w) :
    Calls Tryd.prog 10 #[.string (mk t)] w fun e w' => ∃ v, e = .returned (.tuple #[v, .int .i64 3]) ∧ Ext NoB w w' := by
  have hd : (mk t).data.toList = t := by simp [mk]
  refine (parse_calls (mk t) w hG).mono ?_
  rintro e w' ⟨v, g, he, hO, hx, hg⟩
  rw [hd, h] at he
  exact ⟨v, he, hx⟩
theorem rep_ok (o : BOp) (h : fitsB o = true) (N : Nat) (hN : N ≤ 16) : okB (List.replicate N o) = true := by
  unfold okB
  rw [List.length_replicate, Bool.and_eq_true, decide_eq_true_iff, List.all_eq_true]
  exact ⟨hN, fun x hx => by rw [(List.mem_replicate.1 hx).2]; exact h⟩
theorem rep_long (o : BOp) (N : Nat) (hN : ¬ N ≤ 16) : okB (List.replicate N o) = false := by
  unfold okB
  rw [List.length_replicate, decide_eq_false hN]; rfl
theorem rep_bad (o : BOp) (h : fitsB o = false) (N : Nat) (hN : N ≠ 0) : okB (List.replicate N o) = false := by
  obtain ⟨M, rfl⟩ : ∃ M, N = M + 1 := ⟨N - 1, by omega⟩
  unfold okB
  rw [List.replicate_succ, List.all_cons, h]; simp

set_option maxRecDepth 20000 in
set_option maxHeartbeats 8000000 in
theorem bbounds_calls (n kd : Int) (up : Bool) (w : World) (hG : Gl w) : Calls Tryd.prog 3 #[.int .i64 n, .int .i64 kd, .bool up] w fun e w' => e = .returned (.bool true) ∧ Ext NoB w w' := by
  obtain ⟨N, hN, hNe⟩ := msk31n n
  have hk3 := msk3 kd
  rcases hk3 with hk3 | hk3 | hk3 | hk3
  · cases up with
    | false =>
      go_enter Tryd.func3, Tryd.ntmps3
      go_wp2_with (refine wpList_storeO w.heap.size 2 7 0 _ rfl _ _ rfl rfl rfl (alloc_at w _) rfl (fun w1 hb1 hx1 => ?_); have hz1 := ((Ext.refl NoB w).alloc _).trans hx1 (fun i hi e => (by omega)); have f0 := cell_of_row w1 _ 0 _ _ (0, 0) hb1; have f1 := cell_of_row w1 _ 1 _ _ (0, 0) hb1; have f2 := cell_of_row w1 _ 2 _ _ (0, 0) hb1; have g0 := frz0 (off := 0) hb1; have g1 := frz0 (off := 1) hb1; have g2 := frz0 (off := 2) hb1)
      clear f0 f1 f2 g0 g1 g2
      obtain ⟨bo, hbo⟩ : ∃ bo, w.heap.size = bo := ⟨_, rfl⟩
      rw [hbo] at hb1 ⊢
      have hb0 := hb1
      have hx0 := hz1
      clear hb1 hx1 hz1
      have hop : fitsB ⟨2, 7, 0⟩ = true := by decide
      go_loopw [9, 10] (fun v i wr => ∃ (j : Nat) (g : Option Nat), j ≤ N ∧ i = .int .i64 j ∧ SlO wr 23 3 opB g v (List.replicate j ⟨2, 7, 0⟩) ∧ Ext NoB w wr ∧ wr.heap[bo]? = some (.cells #[.int .i64 2, .int .i64 7, .int .i64 0] 23 (0, 0)) ∧ (∀ q, g = some q → w.heap.size ≤ q ∧ q ≠ bo)) (fun _ i _ => N - (intOf i).toNat)
      case atStart => exact ⟨0, none, Nat.zero_le _, rfl, SlO.nil _ _ _ _, hx0, hb0, by simp⟩
      case round =>
        obtain ⟨j, g, hj, rfl, hO, hext, hbr, hg⟩ := hrel
        have hlb := lt_of_block hbr
        have p0 := cell_of_row wr bo 0 _ _ (0, 0) hbr
        have p1 := cell_of_row wr bo 1 _ _ (0, 0) hbr
        have p2 := cell_of_row wr bo 2 _ _ (0, 0) hbr
        by_cases hlt : j < N
        · have t0 : decide (j < N) = true := by simp [hlt]
          have hb1 : ((List.replicate j (⟨2, 7, 0⟩ : BOp)).length + 1) * 24 ≤ 140737488355328 := by rw [List.length_replicate]; omega
          have hb2 : (List.replicate j (⟨2, 7, 0⟩ : BOp)).length + 1 ≤ maxLen := by rw [List.length_replicate]; unfold maxLen; omega
          go_wp2_with (first
            | (at_builtin; go_loud (refine wpList_appendO (ys := [⟨2, 7, 0⟩]) rfl rfl elem_op opB_len opB_one (hO.keep ((Ext.refl NoB wr).alloc _) (fun _ _ => nb)) rfl (SlR.one' (alloc_at' _ _ _ (by simp)) rfl) rfl rfl hb1 hb2 (fun v' w5 g' hO' hx5 hg' => ?_))))
          go_roundw
          case rel =>
            refine ⟨j + 1, g', by omega, by go_num, by rw [List.replicate_succ']; exact hO', (hext.alloc _).trans hx5 (fun i hi e => absurd (hg i e).1 (by omega)), hx5.keep (((Ext.refl NoB wr).alloc _).keep hbr nb) (fun e => (hg bo e).2 rfl), fun q hq => ?_⟩
            rcases hg' with rfl | rfl
            · exact hg q hq
            · simp only [Option.some.injEq] at hq
              have h1 := hext.size
              simp at hq
              omega
          case measure => simp [intOf]; omega
        · have t0 : decide (j < N) = false := by simp [hlt]
          obtain rfl : j = N := by omega
          clear hlt hbr p0 p1 p2
          by_cases h16 : j ≤ 16
          · have t1 : decide (j ≤ 16) = true := by simp [h16]
            have t1' : decide ((j : Int) ≤ 16) = true := by simp; omega
            have hok := rep_ok ⟨2, 7, 0⟩ hop j h16
            generalize List.replicate j (⟨2, 7, 0⟩ : BOp) = l at *
            obtain ⟨A, c, b, o, rfl, hr, hg2⟩ := hO.read
            go_wp2_with fail
            refine (text_calls A c b o l wr (hG.keep hext) hr).mono ?_
            rintro e w2 ⟨rfl, hx2⟩
            rw [hok, if_pos rfl, if_pos rfl]
            have hr2 := hr.keep hx2 nb1
            go_wp2_with fail
            refine (ok_calls A c b o l w2 hr2).mono ?_
            rintro e w3 ⟨rfl, hx3⟩
            rw [hok]
            have hx03 := (hext.trans hx2 (fun _ _ e => e)).trans hx3 (fun _ _ e => e)
            have hr3 := hr2.keep hx3 nb1
            have hsh := text_short l hok
            have z1 : ¬ 9223372036854775807 < (mk (textL l)).size + 1 := by rw [mk_size]; omega
            have z2 : ¬ 9223372036854775807 < 1 + (mk (textL l)).size := by rw [mk_size]; omega
            have y1 := mk_app (textL l) [59]
            have y2 := one_cat (textL l)
            have pm := Lib.hid (parse_mk l hok)
            have ps := Lib.hid (parse_bad _ (parse_semi _ hsh))
            have pp := Lib.hid (parse_bad _ (parse_space _ hsh))
            generalize mk (textL l ++ [59]) = S2 at *
            generalize mk (32 :: textL l) = S3 at *
            generalize mk (textL l) = S1 at *
            have y1 : S1 ++ (⟨#[59]⟩ : ByteArray) = S2 := y1
            go_wp2_with fail
            refine (pm.out w3 (hG.keep hx03)).mono ?_
            rintro e w4 ⟨v4, g4, rfl, hO4, hx4, hg4⟩
            obtain ⟨A4, c4, b4, o4, rfl, hr4, hg42⟩ := hO4.read
            have hx04 := hx03.trans hx4 (fun _ _ e => e)
            have hq4 := hr3.keep hx4 nb1
            go_wp2_with fail
            refine (ps.out w4 (hG.keep hx04)).mono ?_
            rintro e w5 ⟨v5, rfl, hx5⟩
            have hx05 := hx04.trans hx5 (fun _ _ e => e)
            go_wp2_with fail
            refine (pp.out w5 (hG.keep hx05)).mono ?_
            rintro e w6 ⟨v6, rfl, hx6⟩
            have hx06 := hx05.trans hx6 (fun _ _ e => e)
            go_wp2_with fail
            refine (sameR_calls A4 c4 b4 o4 l A c b o l w6 ((hr4.keep hx5 nb1).keep hx6 nb1) ((hq4.keep hx5 nb1).keep hx6 nb1)).mono ?_
            rintro e w7 ⟨rfl, hx7⟩
            rw [show decide (l = l) = true by simp]
            have hx07 := hx06.trans hx7 (fun _ _ e => e)
            go_wp2_with fail
            refine (awake_calls w7 (hG.keep hx07)).mono ?_
            rintro e w8 ⟨rfl, hx8⟩
            go_wp2_with fail
            go_ret
            exact ⟨rfl, hx07.trans hx8 (fun _ _ e => e)⟩
          · have t1 : decide (j ≤ 16) = false := by simp; omega
            have t1' : decide ((j : Int) ≤ 16) = false := by simp; omega
            have hok := rep_long ⟨2, 7, 0⟩ j h16
            generalize List.replicate j (⟨2, 7, 0⟩ : BOp) = l at *
            obtain ⟨A, c, b, o, rfl, hr, hg2⟩ := hO.read
            go_wp2_with fail
            refine (text_calls A c b o l wr (hG.keep hext) hr).mono ?_
            rintro e w2 ⟨rfl, hx2⟩
            rw [hok]
            simp only [Bool.false_eq_true, if_false]
            have hr2 := hr.keep hx2 nb1
            go_wp2_with fail
            refine (ok_calls A c b o l w2 hr2).mono ?_
            rintro e w3 ⟨rfl, hx3⟩
            rw [hok]
            have hx03 := (hext.trans hx2 (fun _ _ e => e)).trans hx3 (fun _ _ e => e)
            go_wp2_with fail
            refine (awake_calls w3 (hG.keep hx03)).mono ?_
            rintro e w4 ⟨rfl, hx4⟩
            go_wp2_with fail
            go_ret
            exact ⟨rfl, hx03.trans hx4 (fun _ _ e => e)⟩
    | true =>
      go_enter Tryd.func3, Tryd.ntmps3
      go_wp2_with (refine wpList_storeO w.heap.size 2 7 0 _ rfl _ _ rfl rfl rfl (alloc_at w _) rfl (fun w1 hb1 hx1 => ?_); have hz1 := ((Ext.refl NoB w).alloc _).trans hx1 (fun i hi e => (by omega)); have f0 := cell_of_row w1 _ 0 _ _ (0, 0) hb1; have f1 := cell_of_row w1 _ 1 _ _ (0, 0) hb1; have f2 := cell_of_row w1 _ 2 _ _ (0, 0) hb1; have g0 := frz0 (off := 0) hb1; have g1 := frz0 (off := 1) hb1; have g2 := frz0 (off := 2) hb1)
      clear f0 f1 f2 g0 g1 g2
      have hb0 := heap_setCell_same w1 w.heap.size 1 _ _ (.int .i64 8) hb1
      have hx0 := hz1.trans ((Ext.refl (· = w.heap.size) w1).setCell (p := ⟨w.heap.size, 1, none⟩) (fun _ => rfl) (.int .i64 8)) (fun i hi e => by omega)
      generalize w1.setCell ⟨w.heap.size, 1, none⟩ (.int .i64 8) = wS at *
      obtain ⟨bo, hbo⟩ : ∃ bo, w.heap.size = bo := ⟨_, rfl⟩
      rw [hbo] at hb0 ⊢
      have hb0 : wS.heap[bo]? = some (.cells #[.int .i64 2, .int .i64 8, .int .i64 0] 23 (0, 0)) := hb0
      clear hb1 hx1 hz1
      have hop : fitsB ⟨2, 8, 0⟩ = false := by decide
      go_loopw [9, 10] (fun v i wr => ∃ (j : Nat) (g : Option Nat), j ≤ N ∧ i = .int .i64 j ∧ SlO wr 23 3 opB g v (List.replicate j ⟨2, 8, 0⟩) ∧ Ext NoB w wr ∧ wr.heap[bo]? = some (.cells #[.int .i64 2, .int .i64 8, .int .i64 0] 23 (0, 0)) ∧ (∀ q, g = some q → w.heap.size ≤ q ∧ q ≠ bo)) (fun _ i _ => N - (intOf i).toNat)
      case atStart => exact ⟨0, none, Nat.zero_le _, rfl, SlO.nil _ _ _ _, hx0, hb0, by simp⟩
      case round =>
        obtain ⟨j, g, hj, rfl, hO, hext, hbr, hg⟩ := hrel
        have hlb := lt_of_block hbr
        have p0 := cell_of_row wr bo 0 _ _ (0, 0) hbr
        have p1 := cell_of_row wr bo 1 _ _ (0, 0) hbr
        have p2 := cell_of_row wr bo 2 _ _ (0, 0) hbr
        by_cases hlt : j < N
        · have t0 : decide (j < N) = true := by simp [hlt]
          have hb1 : ((List.replicate j (⟨2, 8, 0⟩ : BOp)).length + 1) * 24 ≤ 140737488355328 := by rw [List.length_replicate]; omega
          have hb2 : (List.replicate j (⟨2, 8, 0⟩ : BOp)).length + 1 ≤ maxLen := by rw [List.length_replicate]; unfold maxLen; omega
          go_wp2_with (first
            | (at_builtin; go_loud (refine wpList_appendO (ys := [⟨2, 8, 0⟩]) rfl rfl elem_op opB_len opB_one (hO.keep ((Ext.refl NoB wr).alloc _) (fun _ _ => nb)) rfl (SlR.one' (alloc_at' _ _ _ (by simp)) rfl) rfl rfl hb1 hb2 (fun v' w5 g' hO' hx5 hg' => ?_))))
          go_roundw
          case rel =>
            refine ⟨j + 1, g', by omega, by go_num, by rw [List.replicate_succ']; exact hO', (hext.alloc _).trans hx5 (fun i hi e => absurd (hg i e).1 (by omega)), hx5.keep (((Ext.refl NoB wr).alloc _).keep hbr nb) (fun e => (hg bo e).2 rfl), fun q hq => ?_⟩
            rcases hg' with rfl | rfl
            · exact hg q hq
            · simp only [Option.some.injEq] at hq
              have h1 := hext.size
              simp at hq
              omega
          case measure => simp [intOf]; omega
        · have t0 : decide (j < N) = false := by simp [hlt]
          obtain rfl : j = N := by omega
          clear hlt hbr p0 p1 p2
          by_cases h16 : j = 0
          · subst h16
            have hok : okB ([] : List BOp) = true := rfl
            rw [show List.replicate 0 (⟨2, 8, 0⟩ : BOp) = [] from rfl] at hO
            generalize ([] : List BOp) = l at *
            obtain ⟨A, c, b, o, rfl, hr, hg2⟩ := hO.read
            go_wp2_with fail
            refine (text_calls A c b o l wr (hG.keep hext) hr).mono ?_
            rintro e w2 ⟨rfl, hx2⟩
            rw [hok, if_pos rfl, if_pos rfl]
            have hr2 := hr.keep hx2 nb1
            go_wp2_with fail
            refine (ok_calls A c b o l w2 hr2).mono ?_
            rintro e w3 ⟨rfl, hx3⟩
            rw [hok]
            have hx03 := (hext.trans hx2 (fun _ _ e => e)).trans hx3 (fun _ _ e => e)
            have hr3 := hr2.keep hx3 nb1
            have hsh := text_short l hok
            have z1 : ¬ 9223372036854775807 < (mk (textL l)).size + 1 := by rw [mk_size]; omega
            have z2 : ¬ 9223372036854775807 < 1 + (mk (textL l)).size := by rw [mk_size]; omega
            have y1 := mk_app (textL l) [59]
            have y2 := one_cat (textL l)
            have pm := Lib.hid (parse_mk l hok)
            have ps := Lib.hid (parse_bad _ (parse_semi _ hsh))
            have pp := Lib.hid (parse_bad _ (parse_space _ hsh))
            generalize mk (textL l ++ [59]) = S2 at *
            generalize mk (32 :: textL l) = S3 at *
            generalize mk (textL l) = S1 at *
            have y1 : S1 ++ (⟨#[59]⟩ : ByteArray) = S2 := y1
            go_wp2_with fail
            refine (pm.out w3 (hG.keep hx03)).mono ?_
            rintro e w4 ⟨v4, g4, rfl, hO4, hx4, hg4⟩
            obtain ⟨A4, c4, b4, o4, rfl, hr4, hg42⟩ := hO4.read
            have hx04 := hx03.trans hx4 (fun _ _ e => e)
            have hq4 := hr3.keep hx4 nb1
            go_wp2_with fail
            refine (ps.out w4 (hG.keep hx04)).mono ?_
            rintro e w5 ⟨v5, rfl, hx5⟩
            have hx05 := hx04.trans hx5 (fun _ _ e => e)
            go_wp2_with fail
            refine (pp.out w5 (hG.keep hx05)).mono ?_
            rintro e w6 ⟨v6, rfl, hx6⟩
            have hx06 := hx05.trans hx6 (fun _ _ e => e)
            go_wp2_with fail
            refine (sameR_calls A4 c4 b4 o4 l A c b o l w6 ((hr4.keep hx5 nb1).keep hx6 nb1) ((hq4.keep hx5 nb1).keep hx6 nb1)).mono ?_
            rintro e w7 ⟨rfl, hx7⟩
            rw [show decide (l = l) = true by simp]
            have hx07 := hx06.trans hx7 (fun _ _ e => e)
            go_wp2_with fail
            refine (awake_calls w7 (hG.keep hx07)).mono ?_
            rintro e w8 ⟨rfl, hx8⟩
            go_wp2_with fail
            go_ret
            exact ⟨rfl, hx07.trans hx8 (fun _ _ e => e)⟩
          · have u1 : ((j : Int) == 0) = false := by rw [beq_eq_false_iff_ne]; omega
            have u1' : (j == 0) = false := by rw [beq_eq_false_iff_ne]; omega
            have hok := rep_bad ⟨2, 8, 0⟩ hop j h16
            generalize List.replicate j (⟨2, 8, 0⟩ : BOp) = l at *
            obtain ⟨A, c, b, o, rfl, hr, hg2⟩ := hO.read
            by_cases h17 : j ≤ 16
            · have t1 : decide (j ≤ 16) = true := by simp [h17]
              have t1' : decide ((j : Int) ≤ 16) = true := by simp; omega
              go_wp2_with fail
              refine (text_calls A c b o l wr (hG.keep hext) hr).mono ?_
              rintro e w2 ⟨rfl, hx2⟩
              rw [hok]
              simp only [Bool.false_eq_true, if_false]
              have hr2 := hr.keep hx2 nb1
              go_wp2_with fail
              refine (ok_calls A c b o l w2 hr2).mono ?_
              rintro e w3 ⟨rfl, hx3⟩
              rw [hok]
              have hx03 := (hext.trans hx2 (fun _ _ e => e)).trans hx3 (fun _ _ e => e)
              go_wp2_with fail
              refine (awake_calls w3 (hG.keep hx03)).mono ?_
              rintro e w4 ⟨rfl, hx4⟩
              go_wp2_with fail
              go_ret
              exact ⟨rfl, hx03.trans hx4 (fun _ _ e => e)⟩
            · have t1 : decide (j ≤ 16) = false := by simp; omega
              have t1' : decide ((j : Int) ≤ 16) = false := by simp; omega
              go_wp2_with fail
              refine (text_calls A c b o l wr (hG.keep hext) hr).mono ?_
              rintro e w2 ⟨rfl, hx2⟩
              rw [hok]
              simp only [Bool.false_eq_true, if_false]
              have hr2 := hr.keep hx2 nb1
              go_wp2_with fail
              refine (ok_calls A c b o l w2 hr2).mono ?_
              rintro e w3 ⟨rfl, hx3⟩
              rw [hok]
              have hx03 := (hext.trans hx2 (fun _ _ e => e)).trans hx3 (fun _ _ e => e)
              go_wp2_with fail
              refine (awake_calls w3 (hG.keep hx03)).mono ?_
              rintro e w4 ⟨rfl, hx4⟩
              go_wp2_with fail
              go_ret
              exact ⟨rfl, hx03.trans hx4 (fun _ _ e => e)⟩
  · cases up with
    | false =>
      go_enter Tryd.func3, Tryd.ntmps3
      go_wp2_with (refine wpList_storeO w.heap.size 3 0 1000000 _ rfl _ _ rfl rfl rfl (alloc_at w _) rfl (fun w1 hb1 hx1 => ?_); have hz1 := ((Ext.refl NoB w).alloc _).trans hx1 (fun i hi e => (by omega)); have f0 := cell_of_row w1 _ 0 _ _ (0, 0) hb1; have f1 := cell_of_row w1 _ 1 _ _ (0, 0) hb1; have f2 := cell_of_row w1 _ 2 _ _ (0, 0) hb1; have g0 := frz0 (off := 0) hb1; have g1 := frz0 (off := 1) hb1; have g2 := frz0 (off := 2) hb1)
      clear f0 f1 f2 g0 g1 g2
      obtain ⟨bo, hbo⟩ : ∃ bo, w.heap.size = bo := ⟨_, rfl⟩
      rw [hbo] at hb1 ⊢
      have hb0 := hb1
      have hx0 := hz1
      clear hb1 hx1 hz1
      have hop : fitsB ⟨3, 0, 1000000⟩ = true := by decide
      go_loopw [9, 10] (fun v i wr => ∃ (j : Nat) (g : Option Nat), j ≤ N ∧ i = .int .i64 j ∧ SlO wr 23 3 opB g v (List.replicate j ⟨3, 0, 1000000⟩) ∧ Ext NoB w wr ∧ wr.heap[bo]? = some (.cells #[.int .i64 3, .int .i64 0, .int .i64 1000000] 23 (0, 0)) ∧ (∀ q, g = some q → w.heap.size ≤ q ∧ q ≠ bo)) (fun _ i _ => N - (intOf i).toNat)
      case atStart => exact ⟨0, none, Nat.zero_le _, rfl, SlO.nil _ _ _ _, hx0, hb0, by simp⟩
      case round =>
        obtain ⟨j, g, hj, rfl, hO, hext, hbr, hg⟩ := hrel
        have hlb := lt_of_block hbr
        have p0 := cell_of_row wr bo 0 _ _ (0, 0) hbr
        have p1 := cell_of_row wr bo 1 _ _ (0, 0) hbr
        have p2 := cell_of_row wr bo 2 _ _ (0, 0) hbr
        by_cases hlt : j < N
        · have t0 : decide (j < N) = true := by simp [hlt]
          have hb1 : ((List.replicate j (⟨3, 0, 1000000⟩ : BOp)).length + 1) * 24 ≤ 140737488355328 := by rw [List.length_replicate]; omega
          have hb2 : (List.replicate j (⟨3, 0, 1000000⟩ : BOp)).length + 1 ≤ maxLen := by rw [List.length_replicate]; unfold maxLen; omega
          go_wp2_with (first
            | (at_builtin; go_loud (refine wpList_appendO (ys := [⟨3, 0, 1000000⟩]) rfl rfl elem_op opB_len opB_one (hO.keep ((Ext.refl NoB wr).alloc _) (fun _ _ => nb)) rfl (SlR.one' (alloc_at' _ _ _ (by simp)) rfl) rfl rfl hb1 hb2 (fun v' w5 g' hO' hx5 hg' => ?_))))
          go_roundw
          case rel =>
            refine ⟨j + 1, g', by omega, by go_num, by rw [List.replicate_succ']; exact hO', (hext.alloc _).trans hx5 (fun i hi e => absurd (hg i e).1 (by omega)), hx5.keep (((Ext.refl NoB wr).alloc _).keep hbr nb) (fun e => (hg bo e).2 rfl), fun q hq => ?_⟩
            rcases hg' with rfl | rfl
            · exact hg q hq
            · simp only [Option.some.injEq] at hq
              have h1 := hext.size
              simp at hq
              omega
          case measure => simp [intOf]; omega
        · have t0 : decide (j < N) = false := by simp [hlt]
          obtain rfl : j = N := by omega
          clear hlt hbr p0 p1 p2
          by_cases h16 : j ≤ 16
          · have t1 : decide (j ≤ 16) = true := by simp [h16]
            have t1' : decide ((j : Int) ≤ 16) = true := by simp; omega
            have hok := rep_ok ⟨3, 0, 1000000⟩ hop j h16
            generalize List.replicate j (⟨3, 0, 1000000⟩ : BOp) = l at *
            obtain ⟨A, c, b, o, rfl, hr, hg2⟩ := hO.read
            go_wp2_with fail
            refine (text_calls A c b o l wr (hG.keep hext) hr).mono ?_
            rintro e w2 ⟨rfl, hx2⟩
            rw [hok, if_pos rfl, if_pos rfl]
            have hr2 := hr.keep hx2 nb1
            go_wp2_with fail
            refine (ok_calls A c b o l w2 hr2).mono ?_
            rintro e w3 ⟨rfl, hx3⟩
            rw [hok]
            have hx03 := (hext.trans hx2 (fun _ _ e => e)).trans hx3 (fun _ _ e => e)
            have hr3 := hr2.keep hx3 nb1
            have hsh := text_short l hok
            have z1 : ¬ 9223372036854775807 < (mk (textL l)).size + 1 := by rw [mk_size]; omega
            have z2 : ¬ 9223372036854775807 < 1 + (mk (textL l)).size := by rw [mk_size]; omega
            have y1 := mk_app (textL l) [59]
            have y2 := one_cat (textL l)
            have pm := Lib.hid (parse_mk l hok)
            have ps := Lib.hid (parse_bad _ (parse_semi _ hsh))
            have pp := Lib.hid (parse_bad _ (parse_space _ hsh))
            generalize mk (textL l ++ [59]) = S2 at *
            generalize mk (32 :: textL l) = S3 at *
            generalize mk (textL l) = S1 at *
            have y1 : S1 ++ (⟨#[59]⟩ : ByteArray) = S2 := y1
            go_wp2_with fail
            refine (pm.out w3 (hG.keep hx03)).mono ?_
            rintro e w4 ⟨v4, g4, rfl, hO4, hx4, hg4⟩
            obtain ⟨A4, c4, b4, o4, rfl, hr4, hg42⟩ := hO4.read
            have hx04 := hx03.trans hx4 (fun _ _ e => e)
            have hq4 := hr3.keep hx4 nb1
            go_wp2_with fail
            refine (ps.out w4 (hG.keep hx04)).mono ?_
            rintro e w5 ⟨v5, rfl, hx5⟩
            have hx05 := hx04.trans hx5 (fun _ _ e => e)
            go_wp2_with fail
            refine (pp.out w5 (hG.keep hx05)).mono ?_
            rintro e w6 ⟨v6, rfl, hx6⟩
            have hx06 := hx05.trans hx6 (fun _ _ e => e)
            go_wp2_with fail
            refine (sameR_calls A4 c4 b4 o4 l A c b o l w6 ((hr4.keep hx5 nb1).keep hx6 nb1) ((hq4.keep hx5 nb1).keep hx6 nb1)).mono ?_
            rintro e w7 ⟨rfl, hx7⟩
            rw [show decide (l = l) = true by simp]
            have hx07 := hx06.trans hx7 (fun _ _ e => e)
            go_wp2_with fail
            refine (awake_calls w7 (hG.keep hx07)).mono ?_
            rintro e w8 ⟨rfl, hx8⟩
            go_wp2_with fail
            go_ret
            exact ⟨rfl, hx07.trans hx8 (fun _ _ e => e)⟩
          · have t1 : decide (j ≤ 16) = false := by simp; omega
            have t1' : decide ((j : Int) ≤ 16) = false := by simp; omega
            have hok := rep_long ⟨3, 0, 1000000⟩ j h16
            generalize List.replicate j (⟨3, 0, 1000000⟩ : BOp) = l at *
            obtain ⟨A, c, b, o, rfl, hr, hg2⟩ := hO.read
            go_wp2_with fail
            refine (text_calls A c b o l wr (hG.keep hext) hr).mono ?_
            rintro e w2 ⟨rfl, hx2⟩
            rw [hok]
            simp only [Bool.false_eq_true, if_false]
            have hr2 := hr.keep hx2 nb1
            go_wp2_with fail
            refine (ok_calls A c b o l w2 hr2).mono ?_
            rintro e w3 ⟨rfl, hx3⟩
            rw [hok]
            have hx03 := (hext.trans hx2 (fun _ _ e => e)).trans hx3 (fun _ _ e => e)
            go_wp2_with fail
            refine (awake_calls w3 (hG.keep hx03)).mono ?_
            rintro e w4 ⟨rfl, hx4⟩
            go_wp2_with fail
            go_ret
            exact ⟨rfl, hx03.trans hx4 (fun _ _ e => e)⟩
    | true =>
      go_enter Tryd.func3, Tryd.ntmps3
      go_wp2_with (refine wpList_storeO w.heap.size 3 0 1000000 _ rfl _ _ rfl rfl rfl (alloc_at w _) rfl (fun w1 hb1 hx1 => ?_); have hz1 := ((Ext.refl NoB w).alloc _).trans hx1 (fun i hi e => (by omega)); have f0 := cell_of_row w1 _ 0 _ _ (0, 0) hb1; have f1 := cell_of_row w1 _ 1 _ _ (0, 0) hb1; have f2 := cell_of_row w1 _ 2 _ _ (0, 0) hb1; have g0 := frz0 (off := 0) hb1; have g1 := frz0 (off := 1) hb1; have g2 := frz0 (off := 2) hb1)
      clear f0 f1 f2 g0 g1 g2
      have hb0 := heap_setCell_same w1 w.heap.size 2 _ _ (.int .i64 1000001) hb1
      have hx0 := hz1.trans ((Ext.refl (· = w.heap.size) w1).setCell (p := ⟨w.heap.size, 2, none⟩) (fun _ => rfl) (.int .i64 1000001)) (fun i hi e => by omega)
      generalize w1.setCell ⟨w.heap.size, 2, none⟩ (.int .i64 1000001) = wS at *
      obtain ⟨bo, hbo⟩ : ∃ bo, w.heap.size = bo := ⟨_, rfl⟩
      rw [hbo] at hb0 ⊢
      have hb0 : wS.heap[bo]? = some (.cells #[.int .i64 3, .int .i64 0, .int .i64 1000001] 23 (0, 0)) := hb0
      clear hb1 hx1 hz1
      have hop : fitsB ⟨3, 0, 1000001⟩ = false := by decide
      go_loopw [9, 10] (fun v i wr => ∃ (j : Nat) (g : Option Nat), j ≤ N ∧ i = .int .i64 j ∧ SlO wr 23 3 opB g v (List.replicate j ⟨3, 0, 1000001⟩) ∧ Ext NoB w wr ∧ wr.heap[bo]? = some (.cells #[.int .i64 3, .int .i64 0, .int .i64 1000001] 23 (0, 0)) ∧ (∀ q, g = some q → w.heap.size ≤ q ∧ q ≠ bo)) (fun _ i _ => N - (intOf i).toNat)
      case atStart => exact ⟨0, none, Nat.zero_le _, rfl, SlO.nil _ _ _ _, hx0, hb0, by simp⟩
      case round =>
        obtain ⟨j, g, hj, rfl, hO, hext, hbr, hg⟩ := hrel
        have hlb := lt_of_block hbr
        have p0 := cell_of_row wr bo 0 _ _ (0, 0) hbr
        have p1 := cell_of_row wr bo 1 _ _ (0, 0) hbr
        have p2 := cell_of_row wr bo 2 _ _ (0, 0) hbr
        by_cases hlt : j < N
        · have t0 : decide (j < N) = true := by simp [hlt]
          have hb1 : ((List.replicate j (⟨3, 0, 1000001⟩ : BOp)).length + 1) * 24 ≤ 140737488355328 := by rw [List.length_replicate]; omega
          have hb2 : (List.replicate j (⟨3, 0, 1000001⟩ : BOp)).length + 1 ≤ maxLen := by rw [List.length_replicate]; unfold maxLen; omega
          go_wp2_with (first
            | (at_builtin; go_loud (refine wpList_appendO (ys := [⟨3, 0, 1000001⟩]) rfl rfl elem_op opB_len opB_one (hO.keep ((Ext.refl NoB wr).alloc _) (fun _ _ => nb)) rfl (SlR.one' (alloc_at' _ _ _ (by simp)) rfl) rfl rfl hb1 hb2 (fun v' w5 g' hO' hx5 hg' => ?_))))
          go_roundw
          case rel =>
            refine ⟨j + 1, g', by omega, by go_num, by rw [List.replicate_succ']; exact hO', (hext.alloc _).trans hx5 (fun i hi e => absurd (hg i e).1 (by omega)), hx5.keep (((Ext.refl NoB wr).alloc _).keep hbr nb) (fun e => (hg bo e).2 rfl), fun q hq => ?_⟩
            rcases hg' with rfl | rfl
            · exact hg q hq
            · simp only [Option.some.injEq] at hq
              have h1 := hext.size
              simp at hq
              omega
          case measure => simp [intOf]; omega
        · have t0 : decide (j < N) = false := by simp [hlt]
          obtain rfl : j = N := by omega
          clear hlt hbr p0 p1 p2
          by_cases h16 : j = 0
          · subst h16
            have hok : okB ([] : List BOp) = true := rfl
            rw [show List.replicate 0 (⟨3, 0, 1000001⟩ : BOp) = [] from rfl] at hO
            generalize ([] : List BOp) = l at *
            obtain ⟨A, c, b, o, rfl, hr, hg2⟩ := hO.read
            go_wp2_with fail
            refine (text_calls A c b o l wr (hG.keep hext) hr).mono ?_
            rintro e w2 ⟨rfl, hx2⟩
            rw [hok, if_pos rfl, if_pos rfl]
            have hr2 := hr.keep hx2 nb1
            go_wp2_with fail
            refine (ok_calls A c b o l w2 hr2).mono ?_
            rintro e w3 ⟨rfl, hx3⟩
            rw [hok]
            have hx03 := (hext.trans hx2 (fun _ _ e => e)).trans hx3 (fun _ _ e => e)
            have hr3 := hr2.keep hx3 nb1
            have hsh := text_short l hok
            have z1 : ¬ 9223372036854775807 < (mk (textL l)).size + 1 := by rw [mk_size]; omega
            have z2 : ¬ 9223372036854775807 < 1 + (mk (textL l)).size := by rw [mk_size]; omega
            have y1 := mk_app (textL l) [59]
            have y2 := one_cat (textL l)
            have pm := Lib.hid (parse_mk l hok)
            have ps := Lib.hid (parse_bad _ (parse_semi _ hsh))
            have pp := Lib.hid (parse_bad _ (parse_space _ hsh))
            generalize mk (textL l ++ [59]) = S2 at *
            generalize mk (32 :: textL l) = S3 at *
            generalize mk (textL l) = S1 at *
            have y1 : S1 ++ (⟨#[59]⟩ : ByteArray) = S2 := y1
            go_wp2_with fail
            refine (pm.out w3 (hG.keep hx03)).mono ?_
            rintro e w4 ⟨v4, g4, rfl, hO4, hx4, hg4⟩
            obtain ⟨A4, c4, b4, o4, rfl, hr4, hg42⟩ := hO4.read
            have hx04 := hx03.trans hx4 (fun _ _ e => e)
            have hq4 := hr3.keep hx4 nb1
            go_wp2_with fail
            refine (ps.out w4 (hG.keep hx04)).mono ?_
            rintro e w5 ⟨v5, rfl, hx5⟩
            have hx05 := hx04.trans hx5 (fun _ _ e => e)
            go_wp2_with fail
            refine (pp.out w5 (hG.keep hx05)).mono ?_
            rintro e w6 ⟨v6, rfl, hx6⟩
            have hx06 := hx05.trans hx6 (fun _ _ e => e)
            go_wp2_with fail
            refine (sameR_calls A4 c4 b4 o4 l A c b o l w6 ((hr4.keep hx5 nb1).keep hx6 nb1) ((hq4.keep hx5 nb1).keep hx6 nb1)).mono ?_
            rintro e w7 ⟨rfl, hx7⟩
            rw [show decide (l = l) = true by simp]
            have hx07 := hx06.trans hx7 (fun _ _ e => e)
            go_wp2_with fail
            refine (awake_calls w7 (hG.keep hx07)).mono ?_
            rintro e w8 ⟨rfl, hx8⟩
            go_wp2_with fail
            go_ret
            exact ⟨rfl, hx07.trans hx8 (fun _ _ e => e)⟩
          · have u1 : ((j : Int) == 0) = false := by rw [beq_eq_false_iff_ne]; omega
            have u1' : (j == 0) = false := by rw [beq_eq_false_iff_ne]; omega
            have hok := rep_bad ⟨3, 0, 1000001⟩ hop j h16
            generalize List.replicate j (⟨3, 0, 1000001⟩ : BOp) = l at *
            obtain ⟨A, c, b, o, rfl, hr, hg2⟩ := hO.read
            by_cases h17 : j ≤ 16
            · have t1 : decide (j ≤ 16) = true := by simp [h17]
              have t1' : decide ((j : Int) ≤ 16) = true := by simp; omega
              go_wp2_with fail
              refine (text_calls A c b o l wr (hG.keep hext) hr).mono ?_
              rintro e w2 ⟨rfl, hx2⟩
              rw [hok]
              simp only [Bool.false_eq_true, if_false]
              have hr2 := hr.keep hx2 nb1
              go_wp2_with fail
              refine (ok_calls A c b o l w2 hr2).mono ?_
              rintro e w3 ⟨rfl, hx3⟩
              rw [hok]
              have hx03 := (hext.trans hx2 (fun _ _ e => e)).trans hx3 (fun _ _ e => e)
              go_wp2_with fail
              refine (awake_calls w3 (hG.keep hx03)).mono ?_
              rintro e w4 ⟨rfl, hx4⟩
              go_wp2_with fail
              go_ret
              exact ⟨rfl, hx03.trans hx4 (fun _ _ e => e)⟩
            · have t1 : decide (j ≤ 16) = false := by simp; omega
              have t1' : decide ((j : Int) ≤ 16) = false := by simp; omega
              go_wp2_with fail
              refine (text_calls A c b o l wr (hG.keep hext) hr).mono ?_
              rintro e w2 ⟨rfl, hx2⟩
              rw [hok]
              simp only [Bool.false_eq_true, if_false]
              have hr2 := hr.keep hx2 nb1
              go_wp2_with fail
              refine (ok_calls A c b o l w2 hr2).mono ?_
              rintro e w3 ⟨rfl, hx3⟩
              rw [hok]
              have hx03 := (hext.trans hx2 (fun _ _ e => e)).trans hx3 (fun _ _ e => e)
              go_wp2_with fail
              refine (awake_calls w3 (hG.keep hx03)).mono ?_
              rintro e w4 ⟨rfl, hx4⟩
              go_wp2_with fail
              go_ret
              exact ⟨rfl, hx03.trans hx4 (fun _ _ e => e)⟩
  · cases up with
    | false =>
      go_enter Tryd.func3, Tryd.ntmps3
      go_wp2_with (refine wpList_storeO w.heap.size 4 1000 0 _ rfl _ _ rfl rfl rfl (alloc_at w _) rfl (fun w1 hb1 hx1 => ?_); have hz1 := ((Ext.refl NoB w).alloc _).trans hx1 (fun i hi e => (by omega)); have f0 := cell_of_row w1 _ 0 _ _ (0, 0) hb1; have f1 := cell_of_row w1 _ 1 _ _ (0, 0) hb1; have f2 := cell_of_row w1 _ 2 _ _ (0, 0) hb1; have g0 := frz0 (off := 0) hb1; have g1 := frz0 (off := 1) hb1; have g2 := frz0 (off := 2) hb1)
      clear f0 f1 f2 g0 g1 g2
      obtain ⟨bo, hbo⟩ : ∃ bo, w.heap.size = bo := ⟨_, rfl⟩
      rw [hbo] at hb1 ⊢
      have hb0 := hb1
      have hx0 := hz1
      clear hb1 hx1 hz1
      have hop : fitsB ⟨4, 1000, 0⟩ = true := by decide
      go_loopw [9, 10] (fun v i wr => ∃ (j : Nat) (g : Option Nat), j ≤ N ∧ i = .int .i64 j ∧ SlO wr 23 3 opB g v (List.replicate j ⟨4, 1000, 0⟩) ∧ Ext NoB w wr ∧ wr.heap[bo]? = some (.cells #[.int .i64 4, .int .i64 1000, .int .i64 0] 23 (0, 0)) ∧ (∀ q, g = some q → w.heap.size ≤ q ∧ q ≠ bo)) (fun _ i _ => N - (intOf i).toNat)
      case atStart => exact ⟨0, none, Nat.zero_le _, rfl, SlO.nil _ _ _ _, hx0, hb0, by simp⟩
      case round =>
        obtain ⟨j, g, hj, rfl, hO, hext, hbr, hg⟩ := hrel
        have hlb := lt_of_block hbr
        have p0 := cell_of_row wr bo 0 _ _ (0, 0) hbr
        have p1 := cell_of_row wr bo 1 _ _ (0, 0) hbr
        have p2 := cell_of_row wr bo 2 _ _ (0, 0) hbr
        by_cases hlt : j < N
        · have t0 : decide (j < N) = true := by simp [hlt]
          have hb1 : ((List.replicate j (⟨4, 1000, 0⟩ : BOp)).length + 1) * 24 ≤ 140737488355328 := by rw [List.length_replicate]; omega
          have hb2 : (List.replicate j (⟨4, 1000, 0⟩ : BOp)).length + 1 ≤ maxLen := by rw [List.length_replicate]; unfold maxLen; omega
          go_wp2_with (first
            | (at_builtin; go_loud (refine wpList_appendO (ys := [⟨4, 1000, 0⟩]) rfl rfl elem_op opB_len opB_one (hO.keep ((Ext.refl NoB wr).alloc _) (fun _ _ => nb)) rfl (SlR.one' (alloc_at' _ _ _ (by simp)) rfl) rfl rfl hb1 hb2 (fun v' w5 g' hO' hx5 hg' => ?_))))
          go_roundw
          case rel =>
            refine ⟨j + 1, g', by omega, by go_num, by rw [List.replicate_succ']; exact hO', (hext.alloc _).trans hx5 (fun i hi e => absurd (hg i e).1 (by omega)), hx5.keep (((Ext.refl NoB wr).alloc _).keep hbr nb) (fun e => (hg bo e).2 rfl), fun q hq => ?_⟩
            rcases hg' with rfl | rfl
            · exact hg q hq
            · simp only [Option.some.injEq] at hq
              have h1 := hext.size
              simp at hq
              omega
          case measure => simp [intOf]; omega
        · have t0 : decide (j < N) = false := by simp [hlt]
          obtain rfl : j = N := by omega
          clear hlt hbr p0 p1 p2
          by_cases h16 : j ≤ 16
          · have t1 : decide (j ≤ 16) = true := by simp [h16]
            have t1' : decide ((j : Int) ≤ 16) = true := by simp; omega
            have hok := rep_ok ⟨4, 1000, 0⟩ hop j h16
            generalize List.replicate j (⟨4, 1000, 0⟩ : BOp) = l at *
            obtain ⟨A, c, b, o, rfl, hr, hg2⟩ := hO.read
            go_wp2_with fail
            refine (text_calls A c b o l wr (hG.keep hext) hr).mono ?_
            rintro e w2 ⟨rfl, hx2⟩
            rw [hok, if_pos rfl, if_pos rfl]
            have hr2 := hr.keep hx2 nb1
            go_wp2_with fail
            refine (ok_calls A c b o l w2 hr2).mono ?_
            rintro e w3 ⟨rfl, hx3⟩
            rw [hok]
            have hx03 := (hext.trans hx2 (fun _ _ e => e)).trans hx3 (fun _ _ e => e)
            have hr3 := hr2.keep hx3 nb1
            have hsh := text_short l hok
            have z1 : ¬ 9223372036854775807 < (mk (textL l)).size + 1 := by rw [mk_size]; omega
            have z2 : ¬ 9223372036854775807 < 1 + (mk (textL l)).size := by rw [mk_size]; omega
            have y1 := mk_app (textL l) [59]
            have y2 := one_cat (textL l)
            have pm := Lib.hid (parse_mk l hok)
            have ps := Lib.hid (parse_bad _ (parse_semi _ hsh))
            have pp := Lib.hid (parse_bad _ (parse_space _ hsh))
            generalize mk (textL l ++ [59]) = S2 at *
            generalize mk (32 :: textL l) = S3 at *
            generalize mk (textL l) = S1 at *
            have y1 : S1 ++ (⟨#[59]⟩ : ByteArray) = S2 := y1
            go_wp2_with fail
            refine (pm.out w3 (hG.keep hx03)).mono ?_
            rintro e w4 ⟨v4, g4, rfl, hO4, hx4, hg4⟩
            obtain ⟨A4, c4, b4, o4, rfl, hr4, hg42⟩ := hO4.read
            have hx04 := hx03.trans hx4 (fun _ _ e => e)
            have hq4 := hr3.keep hx4 nb1
            go_wp2_with fail
            refine (ps.out w4 (hG.keep hx04)).mono ?_
            rintro e w5 ⟨v5, rfl, hx5⟩
            have hx05 := hx04.trans hx5 (fun _ _ e => e)
            go_wp2_with fail
            refine (pp.out w5 (hG.keep hx05)).mono ?_
            rintro e w6 ⟨v6, rfl, hx6⟩
            have hx06 := hx05.trans hx6 (fun _ _ e => e)
            go_wp2_with fail
            refine (sameR_calls A4 c4 b4 o4 l A c b o l w6 ((hr4.keep hx5 nb1).keep hx6 nb1) ((hq4.keep hx5 nb1).keep hx6 nb1)).mono ?_
            rintro e w7 ⟨rfl, hx7⟩
            rw [show decide (l = l) = true by simp]
            have hx07 := hx06.trans hx7 (fun _ _ e => e)
            go_wp2_with fail
            refine (awake_calls w7 (hG.keep hx07)).mono ?_
            rintro e w8 ⟨rfl, hx8⟩
            go_wp2_with fail
            go_ret
            exact ⟨rfl, hx07.trans hx8 (fun _ _ e => e)⟩
          · have t1 : decide (j ≤ 16) = false := by simp; omega
            have t1' : decide ((j : Int) ≤ 16) = false := by simp; omega
            have hok := rep_long ⟨4, 1000, 0⟩ j h16
            generalize List.replicate j (⟨4, 1000, 0⟩ : BOp) = l at *
            obtain ⟨A, c, b, o, rfl, hr, hg2⟩ := hO.read
            go_wp2_with fail
            refine (text_calls A c b o l wr (hG.keep hext) hr).mono ?_
            rintro e w2 ⟨rfl, hx2⟩
            rw [hok]
            simp only [Bool.false_eq_true, if_false]
            have hr2 := hr.keep hx2 nb1
            go_wp2_with fail
            refine (ok_calls A c b o l w2 hr2).mono ?_
            rintro e w3 ⟨rfl, hx3⟩
            rw [hok]
            have hx03 := (hext.trans hx2 (fun _ _ e => e)).trans hx3 (fun _ _ e => e)
            go_wp2_with fail
            refine (awake_calls w3 (hG.keep hx03)).mono ?_
            rintro e w4 ⟨rfl, hx4⟩
            go_wp2_with fail
            go_ret
            exact ⟨rfl, hx03.trans hx4 (fun _ _ e => e)⟩
    | true =>
      go_enter Tryd.func3, Tryd.ntmps3
      go_wp2_with (refine wpList_storeO w.heap.size 4 1000 0 _ rfl _ _ rfl rfl rfl (alloc_at w _) rfl (fun w1 hb1 hx1 => ?_); have hz1 := ((Ext.refl NoB w).alloc _).trans hx1 (fun i hi e => (by omega)); have f0 := cell_of_row w1 _ 0 _ _ (0, 0) hb1; have f1 := cell_of_row w1 _ 1 _ _ (0, 0) hb1; have f2 := cell_of_row w1 _ 2 _ _ (0, 0) hb1; have g0 := frz0 (off := 0) hb1; have g1 := frz0 (off := 1) hb1; have g2 := frz0 (off := 2) hb1)
      clear f0 f1 f2 g0 g1 g2
      have hb0 := heap_setCell_same w1 w.heap.size 1 _ _ (.int .i64 1001) hb1
      have hx0 := hz1.trans ((Ext.refl (· = w.heap.size) w1).setCell (p := ⟨w.heap.size, 1, none⟩) (fun _ => rfl) (.int .i64 1001)) (fun i hi e => by omega)
      generalize w1.setCell ⟨w.heap.size, 1, none⟩ (.int .i64 1001) = wS at *
      obtain ⟨bo, hbo⟩ : ∃ bo, w.heap.size = bo := ⟨_, rfl⟩
      rw [hbo] at hb0 ⊢
      have hb0 : wS.heap[bo]? = some (.cells #[.int .i64 4, .int .i64 1001, .int .i64 0] 23 (0, 0)) := hb0
      clear hb1 hx1 hz1
      have hop : fitsB ⟨4, 1001, 0⟩ = false := by decide
      go_loopw [9, 10] (fun v i wr => ∃ (j : Nat) (g : Option Nat), j ≤ N ∧ i = .int .i64 j ∧ SlO wr 23 3 opB g v (List.replicate j ⟨4, 1001, 0⟩) ∧ Ext NoB w wr ∧ wr.heap[bo]? = some (.cells #[.int .i64 4, .int .i64 1001, .int .i64 0] 23 (0, 0)) ∧ (∀ q, g = some q → w.heap.size ≤ q ∧ q ≠ bo)) (fun _ i _ => N - (intOf i).toNat)
      case atStart => exact ⟨0, none, Nat.zero_le _, rfl, SlO.nil _ _ _ _, hx0, hb0, by simp⟩
      case round =>
        obtain ⟨j, g, hj, rfl, hO, hext, hbr, hg⟩ := hrel
        have hlb := lt_of_block hbr
        have p0 := cell_of_row wr bo 0 _ _ (0, 0) hbr
        have p1 := cell_of_row wr bo 1 _ _ (0, 0) hbr
        have p2 := cell_of_row wr bo 2 _ _ (0, 0) hbr
        by_cases hlt : j < N
        · have t0 : decide (j < N) = true := by simp [hlt]
          have hb1 : ((List.replicate j (⟨4, 1001, 0⟩ : BOp)).length + 1) * 24 ≤ 140737488355328 := by rw [List.length_replicate]; omega
          have hb2 : (List.replicate j (⟨4, 1001, 0⟩ : BOp)).length + 1 ≤ maxLen := by rw [List.length_replicate]; unfold maxLen; omega
          go_wp2_with (first
            | (at_builtin; go_loud (refine wpList_appendO (ys := [⟨4, 1001, 0⟩]) rfl rfl elem_op opB_len opB_one (hO.keep ((Ext.refl NoB wr).alloc _) (fun _ _ => nb)) rfl (SlR.one' (alloc_at' _ _ _ (by simp)) rfl) rfl rfl hb1 hb2 (fun v' w5 g' hO' hx5 hg' => ?_))))
          go_roundw
          case rel =>
            refine ⟨j + 1, g', by omega, by go_num, by rw [List.replicate_succ']; exact hO', (hext.alloc _).trans hx5 (fun i hi e => absurd (hg i e).1 (by omega)), hx5.keep (((Ext.refl NoB wr).alloc _).keep hbr nb) (fun e => (hg bo e).2 rfl), fun q hq => ?_⟩
            rcases hg' with rfl | rfl
            · exact hg q hq
            · simp only [Option.some.injEq] at hq
              have h1 := hext.size
              simp at hq
              omega
          case measure => simp [intOf]; omega
        · have t0 : decide (j < N) = false := by simp [hlt]
          obtain rfl : j = N := by omega
          clear hlt hbr p0 p1 p2
          by_cases h16 : j = 0
          · subst h16
            have hok : okB ([] : List BOp) = true := rfl
            rw [show List.replicate 0 (⟨4, 1001, 0⟩ : BOp) = [] from rfl] at hO
            generalize ([] : List BOp) = l at *
            obtain ⟨A, c, b, o, rfl, hr, hg2⟩ := hO.read
            go_wp2_with fail
            refine (text_calls A c b o l wr (hG.keep hext) hr).mono ?_
            rintro e w2 ⟨rfl, hx2⟩
            rw [hok, if_pos rfl, if_pos rfl]
            have hr2 := hr.keep hx2 nb1
            go_wp2_with fail
            refine (ok_calls A c b o l w2 hr2).mono ?_
            rintro e w3 ⟨rfl, hx3⟩
            rw [hok]
            have hx03 := (hext.trans hx2 (fun _ _ e => e)).trans hx3 (fun _ _ e => e)
            have hr3 := hr2.keep hx3 nb1
            have hsh := text_short l hok
            have z1 : ¬ 9223372036854775807 < (mk (textL l)).size + 1 := by rw [mk_size]; omega
            have z2 : ¬ 9223372036854775807 < 1 + (mk (textL l)).size := by rw [mk_size]; omega
            have y1 := mk_app (textL l) [59]
            have y2 := one_cat (textL l)
            have pm := Lib.hid (parse_mk l hok)
            have ps := Lib.hid (parse_bad _ (parse_semi _ hsh))
            have pp := Lib.hid (parse_bad _ (parse_space _ hsh))
            generalize mk (textL l ++ [59]) = S2 at *
            generalize mk (32 :: textL l) = S3 at *
            generalize mk (textL l) = S1 at *
            have y1 : S1 ++ (⟨#[59]⟩ : ByteArray) = S2 := y1
            go_wp2_with fail
            refine (pm.out w3 (hG.keep hx03)).mono ?_
            rintro e w4 ⟨v4, g4, rfl, hO4, hx4, hg4⟩
            obtain ⟨A4, c4, b4, o4, rfl, hr4, hg42⟩ := hO4.read
            have hx04 := hx03.trans hx4 (fun _ _ e => e)
            have hq4 := hr3.keep hx4 nb1
            go_wp2_with fail
            refine (ps.out w4 (hG.keep hx04)).mono ?_
            rintro e w5 ⟨v5, rfl, hx5⟩
            have hx05 := hx04.trans hx5 (fun _ _ e => e)
            go_wp2_with fail
            refine (pp.out w5 (hG.keep hx05)).mono ?_
            rintro e w6 ⟨v6, rfl, hx6⟩
            have hx06 := hx05.trans hx6 (fun _ _ e => e)
            go_wp2_with fail
            refine (sameR_calls A4 c4 b4 o4 l A c b o l w6 ((hr4.keep hx5 nb1).keep hx6 nb1) ((hq4.keep hx5 nb1).keep hx6 nb1)).mono ?_
            rintro e w7 ⟨rfl, hx7⟩
            rw [show decide (l = l) = true by simp]
            have hx07 := hx06.trans hx7 (fun _ _ e => e)
            go_wp2_with fail
            refine (awake_calls w7 (hG.keep hx07)).mono ?_
            rintro e w8 ⟨rfl, hx8⟩
            go_wp2_with fail
            go_ret
            exact ⟨rfl, hx07.trans hx8 (fun _ _ e => e)⟩
          · have u1 : ((j : Int) == 0) = false := by rw [beq_eq_false_iff_ne]; omega
            have u1' : (j == 0) = false := by rw [beq_eq_false_iff_ne]; omega
            have hok := rep_bad ⟨4, 1001, 0⟩ hop j h16
            generalize List.replicate j (⟨4, 1001, 0⟩ : BOp) = l at *
            obtain ⟨A, c, b, o, rfl, hr, hg2⟩ := hO.read
            by_cases h17 : j ≤ 16
            · have t1 : decide (j ≤ 16) = true := by simp [h17]
              have t1' : decide ((j : Int) ≤ 16) = true := by simp; omega
              go_wp2_with fail
              refine (text_calls A c b o l wr (hG.keep hext) hr).mono ?_
              rintro e w2 ⟨rfl, hx2⟩
              rw [hok]
              simp only [Bool.false_eq_true, if_false]
              have hr2 := hr.keep hx2 nb1
              go_wp2_with fail
              refine (ok_calls A c b o l w2 hr2).mono ?_
              rintro e w3 ⟨rfl, hx3⟩
              rw [hok]
              have hx03 := (hext.trans hx2 (fun _ _ e => e)).trans hx3 (fun _ _ e => e)
              go_wp2_with fail
              refine (awake_calls w3 (hG.keep hx03)).mono ?_
              rintro e w4 ⟨rfl, hx4⟩
              go_wp2_with fail
              go_ret
              exact ⟨rfl, hx03.trans hx4 (fun _ _ e => e)⟩
            · have t1 : decide (j ≤ 16) = false := by simp; omega
              have t1' : decide ((j : Int) ≤ 16) = false := by simp; omega
              go_wp2_with fail
              refine (text_calls A c b o l wr (hG.keep hext) hr).mono ?_
              rintro e w2 ⟨rfl, hx2⟩
              rw [hok]
              simp only [Bool.false_eq_true, if_false]
              have hr2 := hr.keep hx2 nb1
              go_wp2_with fail
              refine (ok_calls A c b o l w2 hr2).mono ?_
              rintro e w3 ⟨rfl, hx3⟩
              rw [hok]
              have hx03 := (hext.trans hx2 (fun _ _ e => e)).trans hx3 (fun _ _ e => e)
              go_wp2_with fail
              refine (awake_calls w3 (hG.keep hx03)).mono ?_
              rintro e w4 ⟨rfl, hx4⟩
              go_wp2_with fail
              go_ret
              exact ⟨rfl, hx03.trans hx4 (fun _ _ e => e)⟩
  · go_enter Tryd.func3, Tryd.ntmps3
    go_wp2_with (refine wpList_storeO w.heap.size 5 0 0 _ rfl _ _ rfl rfl rfl (alloc_at w _) rfl (fun w1 hb1 hx1 => ?_); have hz1 := ((Ext.refl NoB w).alloc _).trans hx1 (fun i hi e => (by omega)); have f0 := cell_of_row w1 _ 0 _ _ (0, 0) hb1; have f1 := cell_of_row w1 _ 1 _ _ (0, 0) hb1; have f2 := cell_of_row w1 _ 2 _ _ (0, 0) hb1; have g0 := frz0 (off := 0) hb1; have g1 := frz0 (off := 1) hb1; have g2 := frz0 (off := 2) hb1)
    clear f0 f1 f2 g0 g1 g2
    obtain ⟨bo, hbo⟩ : ∃ bo, w.heap.size = bo := ⟨_, rfl⟩
    rw [hbo] at hb1 ⊢
    have hb0 := hb1
    have hx0 := hz1
    clear hb1 hx1 hz1
    have hop : fitsB ⟨5, 0, 0⟩ = true := by decide
    go_loopw [9, 10] (fun v i wr => ∃ (j : Nat) (g : Option Nat), j ≤ N ∧ i = .int .i64 j ∧ SlO wr 23 3 opB g v (List.replicate j ⟨5, 0, 0⟩) ∧ Ext NoB w wr ∧ wr.heap[bo]? = some (.cells #[.int .i64 5, .int .i64 0, .int .i64 0] 23 (0, 0)) ∧ (∀ q, g = some q → w.heap.size ≤ q ∧ q ≠ bo)) (fun _ i _ => N - (intOf i).toNat)
    case atStart => exact ⟨0, none, Nat.zero_le _, rfl, SlO.nil _ _ _ _, hx0, hb0, by simp⟩
    case round =>
      obtain ⟨j, g, hj, rfl, hO, hext, hbr, hg⟩ := hrel
      have hlb := lt_of_block hbr
      have p0 := cell_of_row wr bo 0 _ _ (0, 0) hbr
      have p1 := cell_of_row wr bo 1 _ _ (0, 0) hbr
      have p2 := cell_of_row wr bo 2 _ _ (0, 0) hbr
      by_cases hlt : j < N
      · have t0 : decide (j < N) = true := by simp [hlt]
        have hb1 : ((List.replicate j (⟨5, 0, 0⟩ : BOp)).length + 1) * 24 ≤ 140737488355328 := by rw [List.length_replicate]; omega
        have hb2 : (List.replicate j (⟨5, 0, 0⟩ : BOp)).length + 1 ≤ maxLen := by rw [List.length_replicate]; unfold maxLen; omega
        go_wp2_with (first
          | (at_builtin; go_loud (refine wpList_appendO (ys := [⟨5, 0, 0⟩]) rfl rfl elem_op opB_len opB_one (hO.keep ((Ext.refl NoB wr).alloc _) (fun _ _ => nb)) rfl (SlR.one' (alloc_at' _ _ _ (by simp)) rfl) rfl rfl hb1 hb2 (fun v' w5 g' hO' hx5 hg' => ?_))))
        go_roundw
        case rel =>
          refine ⟨j + 1, g', by omega, by go_num, by rw [List.replicate_succ']; exact hO', (hext.alloc _).trans hx5 (fun i hi e => absurd (hg i e).1 (by omega)), hx5.keep (((Ext.refl NoB wr).alloc _).keep hbr nb) (fun e => (hg bo e).2 rfl), fun q hq => ?_⟩
          rcases hg' with rfl | rfl
          · exact hg q hq
          · simp only [Option.some.injEq] at hq
            have h1 := hext.size
            simp at hq
            omega
        case measure => simp [intOf]; omega
      · have t0 : decide (j < N) = false := by simp [hlt]
        obtain rfl : j = N := by omega
        clear hlt hbr p0 p1 p2
        by_cases h16 : j ≤ 16
        · have t1 : decide (j ≤ 16) = true := by simp [h16]
          have t1' : decide ((j : Int) ≤ 16) = true := by simp; omega
          have hok := rep_ok ⟨5, 0, 0⟩ hop j h16
          generalize List.replicate j (⟨5, 0, 0⟩ : BOp) = l at *
          obtain ⟨A, c, b, o, rfl, hr, hg2⟩ := hO.read
          go_wp2_with fail
          refine (text_calls A c b o l wr (hG.keep hext) hr).mono ?_
          rintro e w2 ⟨rfl, hx2⟩
          rw [hok, if_pos rfl, if_pos rfl]
          have hr2 := hr.keep hx2 nb1
          go_wp2_with fail
          refine (ok_calls A c b o l w2 hr2).mono ?_
          rintro e w3 ⟨rfl, hx3⟩
          rw [hok]
          have hx03 := (hext.trans hx2 (fun _ _ e => e)).trans hx3 (fun _ _ e => e)
          have hr3 := hr2.keep hx3 nb1
          have hsh := text_short l hok
          have z1 : ¬ 9223372036854775807 < (mk (textL l)).size + 1 := by rw [mk_size]; omega
          have z2 : ¬ 9223372036854775807 < 1 + (mk (textL l)).size := by rw [mk_size]; omega
          have y1 := mk_app (textL l) [59]
          have y2 := one_cat (textL l)
          have pm := Lib.hid (parse_mk l hok)
          have ps := Lib.hid (parse_bad _ (parse_semi _ hsh))
          have pp := Lib.hid (parse_bad _ (parse_space _ hsh))
          generalize mk (textL l ++ [59]) = S2 at *
          generalize mk (32 :: textL l) = S3 at *
          generalize mk (textL l) = S1 at *
          have y1 : S1 ++ (⟨#[59]⟩ : ByteArray) = S2 := y1
          go_wp2_with fail
          refine (pm.out w3 (hG.keep hx03)).mono ?_
          rintro e w4 ⟨v4, g4, rfl, hO4, hx4, hg4⟩
          obtain ⟨A4, c4, b4, o4, rfl, hr4, hg42⟩ := hO4.read
          have hx04 := hx03.trans hx4 (fun _ _ e => e)
          have hq4 := hr3.keep hx4 nb1
          go_wp2_with fail
          refine (ps.out w4 (hG.keep hx04)).mono ?_
          rintro e w5 ⟨v5, rfl, hx5⟩
          have hx05 := hx04.trans hx5 (fun _ _ e => e)
          go_wp2_with fail
          refine (pp.out w5 (hG.keep hx05)).mono ?_
          rintro e w6 ⟨v6, rfl, hx6⟩
          have hx06 := hx05.trans hx6 (fun _ _ e => e)
          go_wp2_with fail
          refine (sameR_calls A4 c4 b4 o4 l A c b o l w6 ((hr4.keep hx5 nb1).keep hx6 nb1) ((hq4.keep hx5 nb1).keep hx6 nb1)).mono ?_
          rintro e w7 ⟨rfl, hx7⟩
          rw [show decide (l = l) = true by simp]
          have hx07 := hx06.trans hx7 (fun _ _ e => e)
          go_wp2_with fail
          refine (awake_calls w7 (hG.keep hx07)).mono ?_
          rintro e w8 ⟨rfl, hx8⟩
          go_wp2_with fail
          go_ret
          exact ⟨rfl, hx07.trans hx8 (fun _ _ e => e)⟩
        · have t1 : decide (j ≤ 16) = false := by simp; omega
          have t1' : decide ((j : Int) ≤ 16) = false := by simp; omega
          have hok := rep_long ⟨5, 0, 0⟩ j h16
          generalize List.replicate j (⟨5, 0, 0⟩ : BOp) = l at *
          obtain ⟨A, c, b, o, rfl, hr, hg2⟩ := hO.read
          go_wp2_with fail
          refine (text_calls A c b o l wr (hG.keep hext) hr).mono ?_
          rintro e w2 ⟨rfl, hx2⟩
          rw [hok]
          simp only [Bool.false_eq_true, if_false]
          have hr2 := hr.keep hx2 nb1
          go_wp2_with fail
          refine (ok_calls A c b o l w2 hr2).mono ?_
          rintro e w3 ⟨rfl, hx3⟩
          rw [hok]
          have hx03 := (hext.trans hx2 (fun _ _ e => e)).trans hx3 (fun _ _ e => e)
          go_wp2_with fail
          refine (awake_calls w3 (hG.keep hx03)).mono ?_
          rintro e w4 ⟨rfl, hx4⟩
          go_wp2_with fail
          go_ret
          exact ⟨rfl, hx03.trans hx4 (fun _ _ e => e)⟩
end Go.Proofs.YtiemokaiaomdbaaDoor
