/- The reference's wheel: Advance. -/
import Derived.Test.YtnobodgjabgikaaProg
import Derived.Test.YtnobodgjabgikaaWhY
import Derived.Test.YtnobodgjabgikaaU
namespace Go.Proofs.Ytnobodgjabgikaa
open Go.RowKit Go.Sort
set_option linter.unusedSimpArgs false
set_option linter.unusedVariables false

theorem SlR.dropK {α : Type} {k : Nat} {xs : List α} {w : World} {enc : α → List Value} {A A' : Option Addr} {c b o n : Nat} (h : SlR w k enc A c b o xs) (hk : ∀ x, (enc x).length = k) (hn : n ≤ xs.length) (hA : n < xs.length → A' = some ⟨b, o + n * k, none⟩) : SlR w k enc A' (c - n) b (o + n * k) (xs.drop n) := by
  have hle := h.le
  have hmx := h.max
  refine ⟨fun hp => hA (by rw [List.length_drop] at hp; omega), by rw [List.length_drop]; omega, by omega, fun j u hu => ?_⟩
  have e : xs.flatMap enc = (xs.take n).flatMap enc ++ (xs.drop n).flatMap enc := by rw [← List.flatMap_append, List.take_append_drop]
  have hl : ((xs.take n).flatMap enc).length = n * k := by rw [flat_len hk, List.length_take, Nat.min_eq_left hn]
  rw [show o + n * k + j = o + (n * k + j) by omega]
  refine h.row (n * k + j) u ?_
  rw [e, List.getElem?_append_right (by omega), hl, show n * k + j - n * k = j by omega]
  exact hu
theorem two_set0 {w : World} {b : Nat} {v0 v1 u : Value} {t : TypeId} (h : w.heap[b]? = some (.cells #[v0, v1] t (0, 0))) : (w.setCell ⟨b, 0, none⟩ u).heap[b]? = some (.cells #[u, v1] t (0, 0)) := by
  unfold World.setCell
  simp [Array.getElem?_modify, h]
theorem two_set1 {w : World} {b : Nat} {v0 v1 u : Value} {t : TypeId} (h : w.heap[b]? = some (.cells #[v0, v1] t (0, 0))) : (w.setCell ⟨b, 1, none⟩ u).heap[b]? = some (.cells #[v0, u] t (0, 0)) := by
  unfold World.setCell
  simp [Array.getElem?_modify, h]

theorem ext_own {wz w5 w6 : World} (h : Ext NoB wz w5) {n : Nat} (hn : wz.heap.size ≤ n) (hx : Ext (fun q => some n = some q) w5 w6) : Ext NoB wz w6 :=
  h.trans hx (fun i hi e => by have := Option.some.inj e; omega)
theorem own_ge {n m : Nat} {g5 : Option Nat} {k : Nat} (h : g5 = some n ∨ g5 = some m) (h1 : k ≤ n) (h2 : k ≤ m) : ∀ q, g5 = some q → k ≤ q := fun q e => by
  rcases h with h | h
  · rw [h] at e; have := Option.some.inj e; omega
  · rw [h] at e; have := Option.some.inj e; omega

def RefAdvPost (b T : Nat) (L : List Tm) (w : World) (e : Ending) (w' : World) : Prop :=
  ∃ (v : Value) (g1 g2 : Option Nat) (k : Nat), e = .returned v ∧ k ≤ L.length ∧ (∀ q (h : q < L.length), q < k → (L[q]).1 ≤ (T : Int)) ∧ (∀ h : k < L.length, (T : Int) < (L[k]).1) ∧ SlO w' 33 2 timerE g1 v (L.take k) ∧ RefW w' b T (L.drop k) g2 ∧ Ext (fun q => q = b) w w' ∧ (∀ q, g1 = some q → w.heap.size ≤ q) ∧ (∀ q, g2 = some q → w.heap.size ≤ q)

set_option maxRecDepth 20000 in
set_option maxHeartbeats 8000000 in
theorem refAdv_calls (b now to T : Nat) (L : List Tm) (g : Option Nat) (w : World) (h : RefW w b now L g) (hT : max (now : Int) (to : Int) = (T : Int)) (hLn : L.length ≤ 1000000) :
    Calls Try.prog 20 #[.pointer (some ⟨b, 0, none⟩), .int .u64 to] w (RefAdvPost b T L w) := by
  obtain ⟨A, c, b', o, h1, h2, h3, h4, h5, h6⟩ := h
  have hle := h2.le
  have hmx := h2.max
  unfold maxLen at hmx
  have hbw := lt_of_block h1
  have hc0 : w.cell? ⟨b, 0, none⟩ = some (.int .u64 now) := by rw [cell_of_row w b 0 _ _ (0, 0) h1]; rfl
  have hf0 := frz0 (off := 0) h1
  have hx0 : Ext (fun q => q = b) w (w.setCell ⟨b, 0, none⟩ (.int .u64 T)) := (Ext.refl (fun q => q = b) w).setCell (fun _ => rfl) _
  have k1 := two_set0 (u := .int .u64 T) h1
  have k2 := h2.keep hx0 (fun hp e => h4 (by rw [h3 hp, e]))
  have hz0 : (w.setCell ⟨b, 0, none⟩ (.int .u64 T)).heap.size = w.heap.size := by simp [World.setCell]
  have hz0' := Lib.hid hz0
  clear hz0 h1 h2
  go_enter Try.func20, Try.ntmps20
  go_wp2_with fail
  clear hc0 hf0 hT
  generalize w.setCell ⟨b, 0, none⟩ (.int .u64 T) = w1 at *
  go_loopw [5] (fun i wr => ∃ k : Nat, k ≤ L.length ∧ i = .int .i64 k ∧ Hid (∀ q (h : q < L.length), q < k → (L[q]).1 ≤ (T : Int)) ∧ Ext NoB w1 wr) (fun i _ => L.length - (intOf i).toNat)
  case atStart => exact ⟨0, Nat.zero_le _, rfl, fun q h hq => absurd hq (Nat.not_lt_zero _), Ext.refl _ _⟩
  case round =>
    obtain ⟨k, hk, rfl, hlow, hxr⟩ := hrel
    have j1 := hxr.keep k1 nb
    have j2 := k2.keep hxr nb1
    have c0 : wr.cell? ⟨b, 0, none⟩ = some (.int .u64 T) := by rw [cell_of_row wr b 0 _ _ (0, 0) j1]; rfl
    have c1 : wr.cell? ⟨b, 1, none⟩ = some (.slice A L.length c) := by rw [cell_of_row wr b 1 _ _ (0, 0) j1]; rfl
    have zr := hxr.size
    rw [hz0'.out] at zr
    by_cases hlt : k < L.length
    · have t0 : decide (k < L.length) = true := by simp [hlt]
      obtain rfl := j2.addr (by omega)
      have e0 := j2.cell timerE_len k L[k] (List.getElem?_eq_getElem hlt) 0 _ rfl
      rw [Nat.add_zero] at e0
      have hstep : Hid ((L[k]).1 ≤ (T : Int) → ∀ q (h : q < L.length), q < k + 1 → (L[q]).1 ≤ (T : Int)) := fun hl q h hq => by
        by_cases hqt : q = k
        · subst hqt; exact hl
        · exact hlow.out q h (by omega)
      have hLk : Hid (∀ h : k < L.length, (L[k]).1 = (L[k]'hlt).1) := fun _ => rfl
      generalize hu : L[k] = u at *
      have hu' := Lib.hid hu
      clear hu
      by_cases hd : u.1 ≤ (T : Int)
      · have t1 : decide (u.1 ≤ (T : Int)) = true := by simp [hd]
        go_wp2_with fail
        go_quiet (fail)
        go_wp2_with fail
        go_roundw
        case rel => exact ⟨k + 1, by omega, by go_num, hstep.out hd, hxr.drewN _⟩
        case measure => simp [intOf]; omega
      · have t1 : decide (u.1 ≤ (T : Int)) = false := by simp [hd]
        have hstop : Hid (∀ h : k < L.length, (T : Int) < (L[k]).1) := fun _ => by rw [hu'.out]; omega
        clear hd
        go_wp2_with fail
        go_quiet (fail)
        refine gen_then ?_
        intro wz hz
        have y1 := hz.keep j1 nb
        have j2z := j2.keep hz nb1
        have d1 : wz.cell? ⟨b, 1, none⟩ = some (.slice (some ⟨b', o, none⟩) L.length c) := hz.cell c1 nb
        have hzz := hz.size
        have hbz : b < wz.heap.size := by omega
        have hki : (k : Int) ≤ (c : Int) := by omega
        have hkn : k ≤ c := by omega
        have hct : ¬ c = k := by omega
        have q1 : (([] : List Tm).length + (L.take k).length) * 16 ≤ 140737488355328 := by rw [List.length_take, List.length_nil]; omega
        have q2 : ([] : List Tm).length + (L.take k).length ≤ maxLen := by rw [List.length_take, List.length_nil]; unfold maxLen; omega
        have q3 := Lib.hid (show k = (L.take k).length by first | (rw [List.length_take]; omega) | simp)
        have q4 : (([] : List Tm).length + (L.drop k).length) * 16 ≤ 140737488355328 := by rw [List.length_drop, List.length_nil]; omega
        have q5 : ([] : List Tm).length + (L.drop k).length ≤ maxLen := by rw [List.length_drop, List.length_nil]; unfold maxLen; omega
        have q6 := Lib.hid (show L.length - k = (L.drop k).length by first | (rw [List.length_drop]; done) | (rw [List.length_drop]; omega) | simp)
        have hdn := Lib.hid (show k = L.length → L.drop k = [] from fun e => List.drop_of_length_le (Nat.le_of_eq e.symm))
        have hcm : c - k ≤ maxLen := by unfold maxLen; omega
        have q1' := Lib.hid q1
        have q4' := Lib.hid q4
        clear q1 q4 c0 c1
        go_wp2_with (first
          | (at_builtin; (refine wpList_appendO rfl rfl elem_tm timerE_len timerE_one (SlO.made (b := w5.heap.size) (xs := ([] : List Tm)) (cs := #[]) (alloc_at w5 _) rfl timerE_len (Nat.zero_le _)) rfl ((j2z.keep (y5.alloc _) nb1).dropK (n := k) timerE_len hk (fun _ => rfl)) rfl q6.out q4'.out q5 (fun v6 w6 g6 hO6 hx6 hg6 => ?_); have y6 := ext_own (y5.alloc _) hz5 hx6; have y7 := y6.keep y1 nb; have d6 : w6.cell? ⟨b, 1, none⟩ = some (.slice (some ⟨b', o, none⟩) L.length c) := (cell_of_row w6 b 1 _ _ (0, 0) y7).trans rfl; have f6 := frz0 (off := 1) y7; generalize hM : ([] : List Tm) ++ L.drop k = M at hO6; have hM' := Lib.hid hM; clear hM; obtain ⟨A6, c6, b6, o6, rfl, hr6, hgr6⟩ := hO6.read))
          | (at_builtin; go_loud (refine wpList_appendO rfl rfl elem_tm timerE_len timerE_one (SlO.made (b := wz.heap.size) (xs := ([] : List Tm)) (cs := #[]) (alloc_at wz _) rfl timerE_len (Nat.zero_le _)) rfl ((j2z.keep ((Ext.refl NoB wz).alloc _) nb1).take timerE_len hk) rfl q3.out q1'.out q2 (fun v5 w5 g5 hO5 hx5 hg5 => ?_); have y5 := ext_own ((Ext.refl NoB wz).alloc _) (Nat.le_refl _) hx5; have d5 := y5.cell d1 nb; have hz5 := y5.size; have hb5 := Nat.lt_of_lt_of_le hbz hz5; have d5' := (y5.alloc (.cells #[] 33)).cell d1 nb)))
        go_ret
        have hM2 := hM'.out
        rw [List.nil_append] at hM2
        subst hM2
        have hg5' : ∀ q, g5 = some q → wz.heap.size ≤ q := own_ge hg5 (Nat.le_refl _) (by simp)
        have hg6' : ∀ q, g6 = some q → w5.heap.size ≤ q := own_ge hg6 (Nat.le_refl _) (by simp)
        have hsz5 : (wz.alloc (.cells #[] 33)).heap.size ≤ w5.heap.size := hx5.size
        have hset := (Ext.refl (fun q => q = b) w6).setCell (p := ⟨b, 1, none⟩) (fun _ => rfl) (.slice A6 (L.drop k).length c6)
        have hO5' := (((hO5.keep ((Ext.refl NoB w5).alloc _) (fun _ _ => nb)).keep hx6 (fun q e1 e2 => by have := hO5.lt e1; have := Option.some.inj e2; omega)).keep hset (fun q e1 e2 => by have := hg5' q e1; omega))
        refine ⟨v5, g5, g6, k, rfl, hk, hlow.out, hstop.out, hO5', ⟨A6, c6, b6, o6, ?_, ?_, hgr6, fun e => by have := hg6' b e; omega, hO6.can, fun q e => ?_⟩, ?_, fun q e => by have := hg5' q e; omega, fun q e => by have := hg6' q e; omega⟩
        · exact two_set1 y7
        · exact hr6.keep hset (fun hp e => by have := hg6' b6 (hgr6 hp); omega)
        · have := hO6.lt e
          have := hset.size
          omega
        · exact ((hx0.trans ((hxr.trans hz (fun _ _ e => e)).trans y6 (fun _ _ e => e)) (fun _ _ e => e.elim)).trans hset (fun _ _ e => e))
    · have t0 : decide (k < L.length) = false := by simp [hlt]
      have hstop : Hid (∀ h : k < L.length, (T : Int) < (L[k]).1) := fun h => absurd h hlt
      obtain rfl : k = L.length := by omega
      clear hlt
      go_wp2_with fail
      go_quiet (fail)
      refine gen_then ?_
      intro wz hz
      rcases h5 with ⟨rfl, rfl⟩ | ⟨b2, o2, rfl⟩
      · obtain rfl : L = [] := List.eq_nil_of_length_eq_zero (by omega)
        have y1 := hz.keep j1 nb
        have j2z := j2.keep hz nb1
        have d1 : wz.cell? ⟨b, 1, none⟩ = some (.slice none 0 0) := hz.cell c1 nb
        have hzz := hz.size
        have hbz : b < wz.heap.size := by omega
        have hki : (0 : Int) ≤ (0 : Int) := by omega
        have hkn : 0 ≤ 0 := by omega
        have hct : True := trivial
        have q1 : (([] : List Tm).length + (([] : List Tm).take 0).length) * 16 ≤ 140737488355328 := by rw [List.length_take, List.length_nil]; omega
        have q2 : ([] : List Tm).length + (([] : List Tm).take 0).length ≤ maxLen := by rw [List.length_take, List.length_nil]; unfold maxLen; omega
        have q3 := Lib.hid (show 0 = (([] : List Tm).take 0).length by first | (rw [List.length_take]; omega) | simp)
        have q4 : (([] : List Tm).length + (([] : List Tm).drop 0).length) * 16 ≤ 140737488355328 := by rw [List.length_drop, List.length_nil]; omega
        have q5 : ([] : List Tm).length + (([] : List Tm).drop 0).length ≤ maxLen := by rw [List.length_drop, List.length_nil]; unfold maxLen; omega
        have q6 := Lib.hid (show 0 = (([] : List Tm).drop 0).length by first | (rw [List.length_drop]; done) | (rw [List.length_drop]; omega) | simp)
        have hdn := Lib.hid (show 0 = 0 → ([] : List Tm).drop 0 = [] from fun e => List.drop_of_length_le (Nat.le_of_eq e.symm))
        have hcm : 0 ≤ maxLen := by unfold maxLen; omega
        have q1' := Lib.hid q1
        have q4' := Lib.hid q4
        clear q1 q4 c0 c1
        go_wp2_with (first
          | (at_builtin; (refine wpList_appendO rfl rfl elem_tm timerE_len timerE_one (SlO.made (b := w5.heap.size) (xs := ([] : List Tm)) (cs := #[]) (alloc_at w5 _) rfl timerE_len (Nat.zero_le _)) rfl (slR_nil (A := none) (c := 0) (b := 0) (o := 0) (hdn.out rfl) hcm) rfl q6.out q4'.out q5 (fun v6 w6 g6 hO6 hx6 hg6 => ?_); have y6 := ext_own (y5.alloc _) hz5 hx6; have y7 := y6.keep y1 nb; have d6 : w6.cell? ⟨b, 1, none⟩ = some (.slice none 0 0) := (cell_of_row w6 b 1 _ _ (0, 0) y7).trans rfl; have f6 := frz0 (off := 1) y7; generalize hM : ([] : List Tm) ++ ([] : List Tm).drop 0 = M at hO6; have hM' := Lib.hid hM; clear hM; obtain ⟨A6, c6, b6, o6, rfl, hr6, hgr6⟩ := hO6.read))
          | (at_builtin; go_loud (refine wpList_appendO rfl rfl elem_tm timerE_len timerE_one (SlO.made (b := wz.heap.size) (xs := ([] : List Tm)) (cs := #[]) (alloc_at wz _) rfl timerE_len (Nat.zero_le _)) rfl ((j2z.keep ((Ext.refl NoB wz).alloc _) nb1).take timerE_len (Nat.le_refl _)) rfl q3.out q1'.out q2 (fun v5 w5 g5 hO5 hx5 hg5 => ?_); have y5 := ext_own ((Ext.refl NoB wz).alloc _) (Nat.le_refl _) hx5; have d5 := y5.cell d1 nb; have hz5 := y5.size; have hb5 := Nat.lt_of_lt_of_le hbz hz5; have d5' := (y5.alloc (.cells #[] 33)).cell d1 nb)))
        go_ret
        have hM2 := hM'.out
        rw [List.nil_append] at hM2
        subst hM2
        have hg5' : ∀ q, g5 = some q → wz.heap.size ≤ q := own_ge hg5 (Nat.le_refl _) (by simp)
        have hg6' : ∀ q, g6 = some q → w5.heap.size ≤ q := own_ge hg6 (Nat.le_refl _) (by simp)
        have hsz5 : (wz.alloc (.cells #[] 33)).heap.size ≤ w5.heap.size := hx5.size
        have hset := (Ext.refl (fun q => q = b) w6).setCell (p := ⟨b, 1, none⟩) (fun _ => rfl) (.slice A6 (([] : List Tm).drop 0).length c6)
        have hO5' := (((hO5.keep ((Ext.refl NoB w5).alloc _) (fun _ _ => nb)).keep hx6 (fun q e1 e2 => by have := hO5.lt e1; have := Option.some.inj e2; omega)).keep hset (fun q e1 e2 => by have := hg5' q e1; omega))
        refine ⟨v5, g5, g6, 0, rfl, Nat.le_refl _, hlow.out, hstop.out, hO5', ⟨A6, c6, b6, o6, ?_, ?_, hgr6, fun e => by have := hg6' b e; omega, hO6.can, fun q e => ?_⟩, ?_, fun q e => by have := hg5' q e; omega, fun q e => by have := hg6' q e; omega⟩
        · exact two_set1 y7
        · exact hr6.keep hset (fun hp e => by have := hg6' b6 (hgr6 hp); omega)
        · have := hO6.lt e
          have := hset.size
          omega
        · exact ((hx0.trans ((hxr.trans hz (fun _ _ e => e)).trans y6 (fun _ _ e => e)) (fun _ _ e => e.elim)).trans hset (fun _ _ e => e))
      · by_cases hcc : c = L.length
        · subst hcc
          have y1 := hz.keep j1 nb
          have j2z := j2.keep hz nb1
          have d1 : wz.cell? ⟨b, 1, none⟩ = some (.slice (some ⟨b2, o2, none⟩) L.length L.length) := hz.cell c1 nb
          have hzz := hz.size
          have hbz : b < wz.heap.size := by omega
          have hki : (L.length : Int) ≤ (L.length : Int) := by omega
          have hkn : L.length ≤ L.length := by omega
          have hct : L.length = L.length := rfl
          have q1 : (([] : List Tm).length + (L.take L.length).length) * 16 ≤ 140737488355328 := by rw [List.length_take, List.length_nil]; omega
          have q2 : ([] : List Tm).length + (L.take L.length).length ≤ maxLen := by rw [List.length_take, List.length_nil]; unfold maxLen; omega
          have q3 := Lib.hid (show L.length = (L.take L.length).length by first | (rw [List.length_take]; omega) | simp)
          have q4 : (([] : List Tm).length + (L.drop L.length).length) * 16 ≤ 140737488355328 := by rw [List.length_drop, List.length_nil]; omega
          have q5 : ([] : List Tm).length + (L.drop L.length).length ≤ maxLen := by rw [List.length_drop, List.length_nil]; unfold maxLen; omega
          have q6 := Lib.hid (show 0 = (L.drop L.length).length by first | (rw [List.length_drop]; done) | (rw [List.length_drop]; omega) | simp)
          have hdn := Lib.hid (show L.length = L.length → L.drop L.length = [] from fun e => List.drop_of_length_le (Nat.le_of_eq e.symm))
          have hcm : 0 ≤ maxLen := by unfold maxLen; omega
          have q1' := Lib.hid q1
          have q4' := Lib.hid q4
          clear q1 q4 c0 c1
          go_wp2_with (first
            | (at_builtin; (refine wpList_appendO rfl rfl elem_tm timerE_len timerE_one (SlO.made (b := w5.heap.size) (xs := ([] : List Tm)) (cs := #[]) (alloc_at w5 _) rfl timerE_len (Nat.zero_le _)) rfl (slR_nil (A := (some ⟨b2, o2, none⟩)) (c := 0) (b := 0) (o := 0) (hdn.out rfl) hcm) rfl q6.out q4'.out q5 (fun v6 w6 g6 hO6 hx6 hg6 => ?_); have y6 := ext_own (y5.alloc _) hz5 hx6; have y7 := y6.keep y1 nb; have d6 : w6.cell? ⟨b, 1, none⟩ = some (.slice (some ⟨b2, o2, none⟩) L.length L.length) := (cell_of_row w6 b 1 _ _ (0, 0) y7).trans rfl; have f6 := frz0 (off := 1) y7; generalize hM : ([] : List Tm) ++ L.drop L.length = M at hO6; have hM' := Lib.hid hM; clear hM; obtain ⟨A6, c6, b6, o6, rfl, hr6, hgr6⟩ := hO6.read))
            | (at_builtin; go_loud (refine wpList_appendO rfl rfl elem_tm timerE_len timerE_one (SlO.made (b := wz.heap.size) (xs := ([] : List Tm)) (cs := #[]) (alloc_at wz _) rfl timerE_len (Nat.zero_le _)) rfl ((j2z.keep ((Ext.refl NoB wz).alloc _) nb1).take timerE_len (Nat.le_refl _)) rfl q3.out q1'.out q2 (fun v5 w5 g5 hO5 hx5 hg5 => ?_); have y5 := ext_own ((Ext.refl NoB wz).alloc _) (Nat.le_refl _) hx5; have d5 := y5.cell d1 nb; have hz5 := y5.size; have hb5 := Nat.lt_of_lt_of_le hbz hz5; have d5' := (y5.alloc (.cells #[] 33)).cell d1 nb)))
          go_ret
          have hM2 := hM'.out
          rw [List.nil_append] at hM2
          subst hM2
          have hg5' : ∀ q, g5 = some q → wz.heap.size ≤ q := own_ge hg5 (Nat.le_refl _) (by simp)
          have hg6' : ∀ q, g6 = some q → w5.heap.size ≤ q := own_ge hg6 (Nat.le_refl _) (by simp)
          have hsz5 : (wz.alloc (.cells #[] 33)).heap.size ≤ w5.heap.size := hx5.size
          have hset := (Ext.refl (fun q => q = b) w6).setCell (p := ⟨b, 1, none⟩) (fun _ => rfl) (.slice A6 (L.drop L.length).length c6)
          have hO5' := (((hO5.keep ((Ext.refl NoB w5).alloc _) (fun _ _ => nb)).keep hx6 (fun q e1 e2 => by have := hO5.lt e1; have := Option.some.inj e2; omega)).keep hset (fun q e1 e2 => by have := hg5' q e1; omega))
          refine ⟨v5, g5, g6, L.length, rfl, Nat.le_refl _, hlow.out, hstop.out, hO5', ⟨A6, c6, b6, o6, ?_, ?_, hgr6, fun e => by have := hg6' b e; omega, hO6.can, fun q e => ?_⟩, ?_, fun q e => by have := hg5' q e; omega, fun q e => by have := hg6' q e; omega⟩
          · exact two_set1 y7
          · exact hr6.keep hset (fun hp e => by have := hg6' b6 (hgr6 hp); omega)
          · have := hO6.lt e
            have := hset.size
            omega
          · exact ((hx0.trans ((hxr.trans hz (fun _ _ e => e)).trans y6 (fun _ _ e => e)) (fun _ _ e => e.elim)).trans hset (fun _ _ e => e))
        · have hcc' := hcc
          have y1 := hz.keep j1 nb
          have j2z := j2.keep hz nb1
          have d1 : wz.cell? ⟨b, 1, none⟩ = some (.slice (some ⟨b2, o2, none⟩) L.length c) := hz.cell c1 nb
          have hzz := hz.size
          have hbz : b < wz.heap.size := by omega
          have hki : (L.length : Int) ≤ (c : Int) := by omega
          have hkn : L.length ≤ c := by omega
          have hct : ¬ c = L.length := hcc'
          have q1 : (([] : List Tm).length + (L.take L.length).length) * 16 ≤ 140737488355328 := by rw [List.length_take, List.length_nil]; omega
          have q2 : ([] : List Tm).length + (L.take L.length).length ≤ maxLen := by rw [List.length_take, List.length_nil]; unfold maxLen; omega
          have q3 := Lib.hid (show L.length = (L.take L.length).length by first | (rw [List.length_take]; omega) | simp)
          have q4 : (([] : List Tm).length + (L.drop L.length).length) * 16 ≤ 140737488355328 := by rw [List.length_drop, List.length_nil]; omega
          have q5 : ([] : List Tm).length + (L.drop L.length).length ≤ maxLen := by rw [List.length_drop, List.length_nil]; unfold maxLen; omega
          have q6 := Lib.hid (show 0 = (L.drop L.length).length by first | (rw [List.length_drop]; done) | (rw [List.length_drop]; omega) | simp)
          have hdn := Lib.hid (show L.length = L.length → L.drop L.length = [] from fun e => List.drop_of_length_le (Nat.le_of_eq e.symm))
          have hcm : c - L.length ≤ maxLen := by unfold maxLen; omega
          have q1' := Lib.hid q1
          have q4' := Lib.hid q4
          clear q1 q4 c0 c1
          go_wp2_with (first
            | (at_builtin; (refine wpList_appendO rfl rfl elem_tm timerE_len timerE_one (SlO.made (b := w5.heap.size) (xs := ([] : List Tm)) (cs := #[]) (alloc_at w5 _) rfl timerE_len (Nat.zero_le _)) rfl (slR_nil (A := (some ⟨b2, o2 + L.length * 2, none⟩)) (c := c - L.length) (b := 0) (o := 0) (hdn.out rfl) hcm) rfl q6.out q4'.out q5 (fun v6 w6 g6 hO6 hx6 hg6 => ?_); have y6 := ext_own (y5.alloc _) hz5 hx6; have y7 := y6.keep y1 nb; have d6 : w6.cell? ⟨b, 1, none⟩ = some (.slice (some ⟨b2, o2, none⟩) L.length c) := (cell_of_row w6 b 1 _ _ (0, 0) y7).trans rfl; have f6 := frz0 (off := 1) y7; generalize hM : ([] : List Tm) ++ L.drop L.length = M at hO6; have hM' := Lib.hid hM; clear hM; obtain ⟨A6, c6, b6, o6, rfl, hr6, hgr6⟩ := hO6.read))
            | (at_builtin; go_loud (refine wpList_appendO rfl rfl elem_tm timerE_len timerE_one (SlO.made (b := wz.heap.size) (xs := ([] : List Tm)) (cs := #[]) (alloc_at wz _) rfl timerE_len (Nat.zero_le _)) rfl ((j2z.keep ((Ext.refl NoB wz).alloc _) nb1).take timerE_len (Nat.le_refl _)) rfl q3.out q1'.out q2 (fun v5 w5 g5 hO5 hx5 hg5 => ?_); have y5 := ext_own ((Ext.refl NoB wz).alloc _) (Nat.le_refl _) hx5; have d5 := y5.cell d1 nb; have hz5 := y5.size; have hb5 := Nat.lt_of_lt_of_le hbz hz5; have d5' := (y5.alloc (.cells #[] 33)).cell d1 nb)))
          go_ret
          have hM2 := hM'.out
          rw [List.nil_append] at hM2
          subst hM2
          have hg5' : ∀ q, g5 = some q → wz.heap.size ≤ q := own_ge hg5 (Nat.le_refl _) (by simp)
          have hg6' : ∀ q, g6 = some q → w5.heap.size ≤ q := own_ge hg6 (Nat.le_refl _) (by simp)
          have hsz5 : (wz.alloc (.cells #[] 33)).heap.size ≤ w5.heap.size := hx5.size
          have hset := (Ext.refl (fun q => q = b) w6).setCell (p := ⟨b, 1, none⟩) (fun _ => rfl) (.slice A6 (L.drop L.length).length c6)
          have hO5' := (((hO5.keep ((Ext.refl NoB w5).alloc _) (fun _ _ => nb)).keep hx6 (fun q e1 e2 => by have := hO5.lt e1; have := Option.some.inj e2; omega)).keep hset (fun q e1 e2 => by have := hg5' q e1; omega))
          refine ⟨v5, g5, g6, L.length, rfl, Nat.le_refl _, hlow.out, hstop.out, hO5', ⟨A6, c6, b6, o6, ?_, ?_, hgr6, fun e => by have := hg6' b e; omega, hO6.can, fun q e => ?_⟩, ?_, fun q e => by have := hg5' q e; omega, fun q e => by have := hg6' q e; omega⟩
          · exact two_set1 y7
          · exact hr6.keep hset (fun hp e => by have := hg6' b6 (hgr6 hp); omega)
          · have := hO6.lt e
            have := hset.size
            omega
          · exact ((hx0.trans ((hxr.trans hz (fun _ _ e => e)).trans y6 (fun _ _ e => e)) (fun _ _ e => e.elim)).trans hset (fun _ _ e => e))

end Go.Proofs.Ytnobodgjabgikaa
