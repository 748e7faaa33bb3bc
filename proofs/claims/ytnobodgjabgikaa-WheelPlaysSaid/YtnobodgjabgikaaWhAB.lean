/- The reference's wheel: Cancel. -/
import Derived.Test.YtnobodgjabgikaaProg
import Derived.Test.YtnobodgjabgikaaWhAA
import Derived.IntWalk
namespace Go.Proofs.Ytnobodgjabgikaa
open Go.RowKit Go.Sort
set_option linter.unusedSimpArgs false
set_option linter.unusedVariables false

def RefCanTo (L : List Tm) (id : Int) (L' : List Tm) : Prop :=
  (refD L id = none ∧ L' = L) ∨ ∃ i, ∃ h : i < L.length, L[i].2 = id ∧ (∀ q (h : q < L.length), q < i → L[q].2 ≠ id) ∧ (refD L id).isSome = true ∧ L' = L.take i ++ L.drop (i + 1)
def RefCanW (b now : Nat) (L : List Tm) (g : Option Nat) (id : Int) (w : World) (e : Ending) (w' : World) : Prop :=
  ∃ L' g', e = .returned (.bool (refD L id).isSome) ∧ RefCanTo L id L' ∧ RefW w' b now L' g' ∧ Ext (fun q => q = b) w w' ∧ (∀ q, g' = some q → g = some q ∨ w.heap.size ≤ q)

theorem refD_some {L : List Tm} {id : Int} {i : Nat} (h : i < L.length) (hi : L[i].2 = id) : (refD L id).isSome = true := by
  unfold refD
  rw [Option.isSome_map]
  exact List.find?_isSome.2 ⟨L[i], List.getElem_mem h, by simp [hi]⟩
theorem refCanW_end {wy w97 : World} {b now : Nat} {L : List Tm} {g : Option Nat} {id : Int} {i : Nat} {v0 : Value} {L97 : List Tm} {A97 : Option Addr} {c97 b97 : Nat} {g97 : Option Nat} (hlt : i < L.length) (hid : L[i].2 = id) (hno : ∀ q (h : q < L.length), q < i → L[q].2 ≠ id)
    (hb : wy.heap[b]? = some (.cells #[.int .u64 now, v0] 48 (0, 0))) (hl : [] ++ L.take i ++ L.drop (i + 1) = L97) (hO : SlO w97 33 2 timerE g97 (.slice A97 L97.length c97) L97) (hE : Ext NoB wy w97) (hq : ∀ q, g97 = some q → wy.heap.size ≤ q) (hg : 0 < L97.length → g97 = some b97) :
    RefCanW b now L g id wy (.returned (.bool true)) (w97.setCell ⟨b, 1, none⟩ (.slice A97 L97.length c97)) := by
  obtain ⟨h1, h2⟩ := refW_set (b97 := b97) hb hO hE hq
  exact ⟨L97, g97, by rw [refD_some hlt hid], .inr ⟨i, hlt, hid, hno, refD_some hlt hid, hl.symm⟩, h1, h2, fun q e => .inr (hq q e)⟩

set_option maxRecDepth 100000 in
set_option maxHeartbeats 16000000 in
theorem refCanW_calls (b now : Nat) (L : List Tm) (g : Option Nat) (id : Int) (wy : World) (h : RefW wy b now L g) (hLn : L.length ≤ 1000000) :
    Calls Try.prog 18 #[.pointer (some ⟨b, 0, none⟩), .int .i64 id] wy (RefCanW b now L g id wy) := by
  have hR := h
  obtain ⟨A, c, b', o, hby1, hLy, h3, h4, h5, h6⟩ := h
  have hle := hLy.le
  have hmx := hLy.max
  unfold maxLen at hmx
  have hbw := lt_of_block hby1
  have hc1y : wy.cell? ⟨b, 1, none⟩ = some (.slice A L.length c) := by rw [cell_of_row wy b 1 _ _ (0, 0) hby1]; rfl
  go_enter Try.func18, Try.ntmps18
  go_wp2_with fail
  go_loop [5] (fun x => ∃ i : Nat, i ≤ L.length ∧ x = .int .i64 i ∧ Hid (∀ q (h : q < L.length), q < i → L[q].2 ≠ id)) (fun x => L.length - (intOf x).toNat)
  case atStart => exact ⟨0, Nat.zero_le _, rfl, fun q h hq => absurd hq (Nat.not_lt_zero _)⟩
  case round =>
    obtain ⟨i, hi, rfl, hno⟩ := hrel
    by_cases hlt : i < L.length
    · have t0 : decide (i < L.length) = true := by simp [hlt]
      obtain rfl := hLy.addr (by omega)
      have e1 := hLy.cell timerE_len i L[i] (List.getElem?_eq_getElem hlt) 1 _ rfl
      have hstep : Hid (L[i].2 ≠ id → ∀ q (h : q < L.length), q < i + 1 → L[q].2 ≠ id) := fun hl q h hq => by
        by_cases hqt : q = i
        · subst hqt; exact hl
        · exact hno.out q h (by omega)
      have hid0 : Hid (∀ x, L[i].2 = x → L[i].2 = x) := fun _ h => h
      generalize hu : L[i] = u at *
      have hu' := Lib.hid hu
      clear hu
      obtain ⟨ud, ui⟩ := u
      dsimp only at e1
      by_cases hui : ui = id
      · subst hui
        have hid : Hid (L[i].2 = ui) := by show _ = _; rw [hu'.out]
        have hi0 : i ≤ L.length := by omega
        have hi1 : i + 1 ≤ L.length := by omega
        clear hstep hid0 hR
        by_cases hci : c = i + 1
        · have hLi := Lib.hid (show L.length = i + 1 by omega)
          have hdn := Lib.hid (show L.drop (i + 1) = [] from List.drop_of_length_le (by omega))
          rw [hLi.out] at hc1y
          subst hci
          go_wp2_with fail
          have hki : (i : Int) ≤ ((i + 1) : Int) := by omega
          have hkn : i ≤ (i + 1) := by omega
          have hki1 : (i : Int) + 1 ≤ ((i + 1) : Int) := by omega
          have hkn1 : i + 1 ≤ (i + 1) := by omega
          have q1' := Lib.hid (show (([] : List Tm).length + (L.take i).length) * 16 ≤ 140737488355328 by rw [List.length_take, List.length_nil]; omega)
          have q2 : ([] : List Tm).length + (L.take i).length ≤ maxLen := by rw [List.length_take, List.length_nil]; unfold maxLen; omega
          have q3' := Lib.hid (show i = (L.take i).length by rw [List.length_take]; omega)
          have q4 : (([] ++ L.take i).length + (L.drop (i + 1)).length) * 16 ≤ 140737488355328 := by rw [List.length_append, List.length_nil, List.length_take, List.length_drop]; omega
          have q5 : ([] ++ L.take i).length + (L.drop (i + 1)).length ≤ maxLen := by rw [List.length_append, List.length_nil, List.length_take, List.length_drop]; unfold maxLen; omega
          have q8' := Lib.hid (show 0 = (L.drop (i + 1)).length by first | (rw [List.length_drop]; done) | (rw [List.length_drop]; omega))
          have hkl : (i : Int) + 1 ≤ ((i + 1) : Int) := by omega
          have hw0 : (0 : Int) ≤ (i : Int) + 1 := by omega
          have hwt : ((i : Int) + 1).toNat = i + 1 := by omega
          have hwr : IntKind.i64.wrap ((i : Int) + 1) = (i : Int) + 1 := IntWalk.i64_in _ (by omega)
          refine wp_region_V 19 (fun w' => w'.cell? ⟨b, 1, none⟩ = some (.slice (some ⟨b', o, none⟩) (i + 1) (i + 1))) (by kernel_rfl) ?_
          try simp only [Act.put, List.setIfInBounds_toArray, List.set_cons_zero, List.set_cons_succ]
          refine wpAnyV_take (i := 0) (by kernel_rfl) (by kernel_rfl) (by kernel_rfl) (by kernel_rfl) (by kernel_rfl) hc1y (fun o ho => ?_)
          conv at ho => rhs; whnf
          subst ho
          refine ⟨?_, fun _ _ _ h => h, Or.inl ⟨by rfl, ?_⟩, ?_⟩
          rotate_left
          · intro w hSw
            try dsimp only at hSw
            try obtain ⟨s1, s2, s3⟩ := hSw
            first | (go_simp; done) | (go_simp; with_reducible rfl)
          try simp only [Act.put, List.setIfInBounds_toArray, List.set_cons_zero, List.set_cons_succ]
          refine wpAnyV_take (i := 2) (by kernel_rfl) (by kernel_rfl) (by kernel_rfl) (by kernel_rfl) (by kernel_rfl) hc1y (fun o ho => ?_)
          conv at ho => rhs; whnf
          subst ho
          refine ⟨?_, fun _ _ _ h => h, Or.inl ⟨by rfl, ?_⟩, ?_⟩
          rotate_left
          · intro w hSw
            try dsimp only at hSw
            try obtain ⟨s1, s2, s3⟩ := hSw
            first | (go_simp; done) | (go_simp; with_reducible rfl)
          try simp only [Act.put, List.setIfInBounds_toArray, List.set_cons_zero, List.set_cons_succ]
          refine wpAnyV_take (i := 3) (by kernel_rfl) (by kernel_rfl) (by kernel_rfl) (by kernel_rfl) (by kernel_rfl) hc1y (fun o ho => ?_)
          conv at ho => rhs; whnf
          subst ho
          refine ⟨?_, fun _ _ _ h => h, Or.inl ⟨by rfl, ?_⟩, ?_⟩
          rotate_left
          · intro w hSw
            try dsimp only at hSw
            try obtain ⟨s1, s2, s3⟩ := hSw
            first | (go_simp; done) | (go_simp; with_reducible rfl)
          try simp only [Act.put, List.setIfInBounds_toArray, List.set_cons_zero, List.set_cons_succ]
          refine wpAnyV_take (i := 4) (by kernel_rfl) (by kernel_rfl) (by kernel_rfl) (by kernel_rfl) (by kernel_rfl) hc1y (fun o ho => ?_)
          conv at ho => rhs; whnf
          subst ho
          refine ⟨?_, fun _ _ _ h => h, Or.inl ⟨by rfl, ?_⟩, ?_⟩
          rotate_left
          · intro w hSw
            try dsimp only at hSw
            try obtain ⟨s1, s2, s3⟩ := hSw
            first | (go_simp; done) | (go_simp; with_reducible rfl)
          try simp only [Act.put, List.setIfInBounds_toArray, List.set_cons_zero, List.set_cons_succ]
          refine wpAnyV_take (i := 5) (by kernel_rfl) (by kernel_rfl) (by kernel_rfl) (by kernel_rfl) (by kernel_rfl) hc1y (fun o ho => ?_)
          conv at ho => rhs; whnf
          subst ho
          refine ⟨?_, fun _ _ _ h => h, Or.inl ⟨by rfl, ?_⟩, ?_⟩
          rotate_left
          · intro w hSw
            try dsimp only at hSw
            try obtain ⟨s1, s2, s3⟩ := hSw
            first | (go_simp; done) | (go_simp; with_reducible rfl)
          try simp only [Act.put, List.setIfInBounds_toArray, List.set_cons_zero, List.set_cons_succ]
          refine wpAnyV_take (i := 6) (by kernel_rfl) (by kernel_rfl) (by kernel_rfl) (by kernel_rfl) (by kernel_rfl) hc1y (fun o ho => ?_)
          conv at ho => rhs; whnf
          subst ho
          refine ⟨?_, fun _ _ _ h => h, Or.inl ⟨by rfl, ?_⟩, ?_⟩
          rotate_left
          · intro w hSw
            try dsimp only at hSw
            try obtain ⟨s1, s2, s3⟩ := hSw
            first | (go_simp; done) | (go_simp; with_reducible rfl)
          try simp only [Act.put, List.setIfInBounds_toArray, List.set_cons_zero, List.set_cons_succ]
          refine wpAnyV_take (i := 7) (by kernel_rfl) (by kernel_rfl) (by kernel_rfl) (by kernel_rfl) (by kernel_rfl) hc1y (fun o ho => ?_)
          conv at ho => rhs; whnf
          subst ho
          refine ⟨?_, fun _ _ _ h => h, Or.inl ⟨by rfl, ?_⟩, ?_⟩
          rotate_left
          · intro w hSw
            try dsimp only at hSw
            try obtain ⟨s1, s2, s3⟩ := hSw
            first | (go_simp; done) | (go_simp; with_reducible rfl)
          try simp only [Act.put, List.setIfInBounds_toArray, List.set_cons_zero, List.set_cons_succ]
          refine wpAnyV_take (i := 9) (by kernel_rfl) (by kernel_rfl) (by kernel_rfl) (by kernel_rfl) (by kernel_rfl) hc1y (fun o ho => ?_)
          conv at ho => rhs; whnf
          subst ho
          refine ⟨?_, fun _ _ _ h => h, Or.inl ⟨by rfl, ?_⟩, ?_⟩
          rotate_left
          · intro w hSw
            try dsimp only at hSw
            try obtain ⟨s1, s2, s3⟩ := hSw
            first | (go_simp; done) | (go_simp; with_reducible rfl)
          try simp only [Act.put, List.setIfInBounds_toArray, List.set_cons_zero, List.set_cons_succ]
          refine wpAnyV_take (i := 10) (by kernel_rfl) (by kernel_rfl) (by kernel_rfl) (by kernel_rfl) (by kernel_rfl) hc1y (fun o ho => ?_)
          conv at ho => rhs; whnf
          subst ho
          refine ⟨?_, fun _ _ _ h => h, Or.inl ⟨by rfl, ?_⟩, ?_⟩
          rotate_left
          · intro w hSw
            try dsimp only at hSw
            try obtain ⟨s1, s2, s3⟩ := hSw
            first | (go_simp; done) | (go_simp; with_reducible rfl)
          try simp only [Act.put, List.setIfInBounds_toArray, List.set_cons_zero, List.set_cons_succ]
          refine wpAnyV_take (i := 11) (by kernel_rfl) (by kernel_rfl) (by kernel_rfl) (by kernel_rfl) (by kernel_rfl) hc1y (fun o ho => ?_)
          conv at ho => rhs; whnf
          subst ho
          refine ⟨?_, fun _ _ _ h => h, Or.inl ⟨by rfl, ?_⟩, ?_⟩
          rotate_left
          · intro w hSw
            try dsimp only at hSw
            try obtain ⟨s1, s2, s3⟩ := hSw
            first | (go_simp; done) | (go_simp; with_reducible rfl)
          try simp only [Act.put, List.setIfInBounds_toArray, List.set_cons_zero, List.set_cons_succ]
          refine wpAnyV_take (i := 12) (by kernel_rfl) (by kernel_rfl) (by kernel_rfl) (by kernel_rfl) (by kernel_rfl) hc1y (fun o ho => ?_)
          conv at ho => rhs; whnf
          subst ho
          refine ⟨?_, fun _ _ _ h => h, Or.inl ⟨by rfl, ?_⟩, ?_⟩
          rotate_left
          · intro w hSw
            try dsimp only at hSw
            try obtain ⟨s1, s2, s3⟩ := hSw
            first | (go_simp; done) | (go_simp; with_reducible rfl)
          try simp only [Act.put, List.setIfInBounds_toArray, List.set_cons_zero, List.set_cons_succ]
          refine wpAnyV_take (i := 13) (by kernel_rfl) (by kernel_rfl) (by kernel_rfl) (by kernel_rfl) (by kernel_rfl) hc1y (fun o ho => ?_)
          conv at ho => rhs; whnf
          subst ho
          refine ⟨?_, fun _ _ _ h => h, Or.inl ⟨by rfl, ?_⟩, ?_⟩
          rotate_left
          · intro w hSw
            try dsimp only at hSw
            try obtain ⟨s1, s2, s3⟩ := hSw
            first | (go_simp; done) | (go_simp; with_reducible rfl)
          try simp only [Act.put, List.setIfInBounds_toArray, List.set_cons_zero, List.set_cons_succ]
          refine wpAnyV_take (i := 14) (by kernel_rfl) (by kernel_rfl) (by kernel_rfl) (by kernel_rfl) (by kernel_rfl) hc1y (fun o ho => ?_)
          conv at ho => rhs; whnf
          subst ho
          refine ⟨?_, fun _ _ _ h => h, Or.inl ⟨by rfl, ?_⟩, ?_⟩
          rotate_left
          · intro w hSw
            try dsimp only at hSw
            try obtain ⟨s1, s2, s3⟩ := hSw
            first | (go_simp; done) | (go_simp; with_reducible rfl)
          try simp only [Act.put, List.setIfInBounds_toArray, List.set_cons_zero, List.set_cons_succ]
          refine wpAnyV_take (i := 15) (by kernel_rfl) (by kernel_rfl) (by kernel_rfl) (by kernel_rfl) (by kernel_rfl) hc1y (fun o ho => ?_)
          conv at ho => rhs; whnf
          subst ho
          refine ⟨?_, fun _ _ _ h => h, Or.inl ⟨by rfl, ?_⟩, ?_⟩
          rotate_left
          · intro w hSw
            try dsimp only at hSw
            try obtain ⟨s1, s2, s3⟩ := hSw
            first | (go_simp; done) | (go_simp; with_reducible rfl)
          try simp only [Act.put, List.setIfInBounds_toArray, List.set_cons_zero, List.set_cons_succ]
          refine wpAnyV_one (i := 1) (by kernel_rfl) (by kernel_rfl) (fun o ho K hK => ?_)
          conv at ho => rhs; whnf
          subst ho
          go_simp
          refine hK.out _ _ (Or.inr (((Ext.refl NoB _).alloc _).cell hc1y nb)) ?_
          clear hK K
          try simp only [Act.put, List.setIfInBounds_toArray, List.set_cons_zero, List.set_cons_succ]
          refine wpAnyV_one (i := 8) (by kernel_rfl) (by kernel_rfl) (fun o ho K hK => ?_)
          conv at ho => rhs; whnf
          subst ho
          refine step_appendW wy 28 16 elem_tm timerE_len timerE_one (some (wy.heap.size)) (.slice (some ⟨wy.heap.size, 0, none⟩) 0 0) ([]) (L.take i) (.tmp 26) (.tmp 32) ((some ⟨b', o, none⟩)) ((i + 1)) (b') (o) (i) q1'.out q2 q3'.out (ne_own (by omega)) rfl rfl rfl rfl ((Ext.refl NoB wy).drew.alloc _) (SlO.made (b := wy.heap.size) (xs := ([] : List Tm)) (cs := #[]) (alloc_at wy.drew _) rfl timerE_len (Nat.zero_le _)) ((SlR.keep hLy ((Ext.refl NoB wy).drew.alloc _) nb1).take timerE_len hi0) (fun v85 w85 g85 hO85 hx85 hE85 hq85 => ?_)
          try go_simp
          refine hK.out _ _ (Or.inr ((hE85).cell hc1y nb)) ?_
          clear hK K
          try simp only [Act.put, List.setIfInBounds_toArray, List.set_cons_zero, List.set_cons_succ]
          refine wpAnyV_one (i := 16) (by kernel_rfl) (by kernel_rfl) (fun o ho K hK => ?_)
          conv at ho => rhs; whnf
          subst ho
          refine step_appendW wy 28 16 elem_tm timerE_len timerE_one (g85) (v85) ([] ++ L.take i) (L.drop (i + 1)) (.tmp 33) (.tmp 40) (some ⟨b', o, none⟩) (0) (b') (0) (0) q4 q5 q8'.out hq85 rfl rfl rfl rfl (hE85) (hO85) (slR_nil hdn.out (Nat.zero_le _)) (fun v97 w97 g97 hO97 hx97 hE97 hq97 => ?_)
          generalize hl97 : [] ++ L.take i ++ L.drop (i + 1) = L97 at hO97
          have hl97' := Lib.hid hl97
          clear hl97
          obtain ⟨A97, c97, b97, o97, rfl, hr97, hg97⟩ := hO97.read
          try go_simp
          refine hK.out _ _ (Or.inr ((hE97).cell hc1y nb)) ?_
          clear hK K
          try simp only [Act.put, List.setIfInBounds_toArray, List.set_cons_zero, List.set_cons_succ]
          have zc97 := hE97.cell hc1y nb
          have zf97 := frz0 (off := 1) (hE97.keep hby1 nb)
          refine wpAnyV_one (i := 17) (by kernel_rfl) (by kernel_rfl) (fun o ho K hK => ?_)
          conv at ho => rhs; whnf
          subst ho
          go_simp
          refine hK.out _ _ (Or.inr ((hE97).cell hc1y nb)) ?_
          clear hK K
          try simp only [Act.put, List.setIfInBounds_toArray, List.set_cons_zero, List.set_cons_succ]
          refine wpAnyV_one (i := 18) (by kernel_rfl) (by kernel_rfl) (fun o ho K hK => ?_)
          conv at ho => rhs; whnf
          subst ho
          go_simp
          refine hK.out _ _ (Or.inr ((hE97).cell hc1y nb)) ?_
          clear hK K
          try simp only [Act.put, List.setIfInBounds_toArray, List.set_cons_zero, List.set_cons_succ]
          refine wpAnyV_one (i := 19) (by kernel_rfl) (by kernel_rfl) (fun o ho K hK => ?_)
          conv at ho => rhs; whnf
          subst ho
          go_simp
          refine hK.out _ _ (Or.inl rfl) ?_
          clear hK K
          try simp only [Act.put, List.setIfInBounds_toArray, List.set_cons_zero, List.set_cons_succ]
          refine wpAnyV_done (by kernel_rfl) ?_ _
          clear zc97 zf97 hwt hwr
          go_wp2_with fail
          go_ret
          exact refCanW_end hlt hid.out hno.out hby1 hl97'.out hO97 hE97 hq97 hg97
        · have hct : ¬ c = i + 1 := hci
          have hct' : ¬ (c : Int) = (i : Int) + 1 := by omega
          go_wp2_with fail
          have hki : (i : Int) ≤ (c : Int) := by omega
          have hkn : i ≤ c := by omega
          have hki1 : (i : Int) + 1 ≤ (c : Int) := by omega
          have hkn1 : i + 1 ≤ c := by omega
          have q1' := Lib.hid (show (([] : List Tm).length + (L.take i).length) * 16 ≤ 140737488355328 by rw [List.length_take, List.length_nil]; omega)
          have q2 : ([] : List Tm).length + (L.take i).length ≤ maxLen := by rw [List.length_take, List.length_nil]; unfold maxLen; omega
          have q3' := Lib.hid (show i = (L.take i).length by rw [List.length_take]; omega)
          have q4 : (([] ++ L.take i).length + (L.drop (i + 1)).length) * 16 ≤ 140737488355328 := by rw [List.length_append, List.length_nil, List.length_take, List.length_drop]; omega
          have q5 : ([] ++ L.take i).length + (L.drop (i + 1)).length ≤ maxLen := by rw [List.length_append, List.length_nil, List.length_take, List.length_drop]; unfold maxLen; omega
          have q8' := Lib.hid (show L.length - (i + 1) = (L.drop (i + 1)).length by first | (rw [List.length_drop]; done) | (rw [List.length_drop]; omega))
          have hkl : (i : Int) + 1 ≤ (L.length : Int) := by omega
          have hw0 : (0 : Int) ≤ (i : Int) + 1 := by omega
          have hwt : ((i : Int) + 1).toNat = i + 1 := by omega
          have hwr : IntKind.i64.wrap ((i : Int) + 1) = (i : Int) + 1 := IntWalk.i64_in _ (by omega)
          refine wp_region_V 19 (fun w' => w'.cell? ⟨b, 1, none⟩ = some (.slice (some ⟨b', o, none⟩) L.length c)) (by kernel_rfl) ?_
          try simp only [Act.put, List.setIfInBounds_toArray, List.set_cons_zero, List.set_cons_succ]
          refine wpAnyV_take (i := 0) (by kernel_rfl) (by kernel_rfl) (by kernel_rfl) (by kernel_rfl) (by kernel_rfl) hc1y (fun o ho => ?_)
          conv at ho => rhs; whnf
          subst ho
          refine ⟨?_, fun _ _ _ h => h, Or.inl ⟨by rfl, ?_⟩, ?_⟩
          rotate_left
          · intro w hSw
            try dsimp only at hSw
            try obtain ⟨s1, s2, s3⟩ := hSw
            first | (go_simp; done) | (go_simp; with_reducible rfl)
          try simp only [Act.put, List.setIfInBounds_toArray, List.set_cons_zero, List.set_cons_succ]
          refine wpAnyV_take (i := 2) (by kernel_rfl) (by kernel_rfl) (by kernel_rfl) (by kernel_rfl) (by kernel_rfl) hc1y (fun o ho => ?_)
          conv at ho => rhs; whnf
          subst ho
          refine ⟨?_, fun _ _ _ h => h, Or.inl ⟨by rfl, ?_⟩, ?_⟩
          rotate_left
          · intro w hSw
            try dsimp only at hSw
            try obtain ⟨s1, s2, s3⟩ := hSw
            first | (go_simp; done) | (go_simp; with_reducible rfl)
          try simp only [Act.put, List.setIfInBounds_toArray, List.set_cons_zero, List.set_cons_succ]
          refine wpAnyV_take (i := 3) (by kernel_rfl) (by kernel_rfl) (by kernel_rfl) (by kernel_rfl) (by kernel_rfl) hc1y (fun o ho => ?_)
          conv at ho => rhs; whnf
          subst ho
          refine ⟨?_, fun _ _ _ h => h, Or.inl ⟨by rfl, ?_⟩, ?_⟩
          rotate_left
          · intro w hSw
            try dsimp only at hSw
            try obtain ⟨s1, s2, s3⟩ := hSw
            first | (go_simp; done) | (go_simp; with_reducible rfl)
          try simp only [Act.put, List.setIfInBounds_toArray, List.set_cons_zero, List.set_cons_succ]
          refine wpAnyV_take (i := 4) (by kernel_rfl) (by kernel_rfl) (by kernel_rfl) (by kernel_rfl) (by kernel_rfl) hc1y (fun o ho => ?_)
          conv at ho => rhs; whnf
          subst ho
          refine ⟨?_, fun _ _ _ h => h, Or.inl ⟨by rfl, ?_⟩, ?_⟩
          rotate_left
          · intro w hSw
            try dsimp only at hSw
            try obtain ⟨s1, s2, s3⟩ := hSw
            first | (go_simp; done) | (go_simp; with_reducible rfl)
          try simp only [Act.put, List.setIfInBounds_toArray, List.set_cons_zero, List.set_cons_succ]
          refine wpAnyV_take (i := 5) (by kernel_rfl) (by kernel_rfl) (by kernel_rfl) (by kernel_rfl) (by kernel_rfl) hc1y (fun o ho => ?_)
          conv at ho => rhs; whnf
          subst ho
          refine ⟨?_, fun _ _ _ h => h, Or.inl ⟨by rfl, ?_⟩, ?_⟩
          rotate_left
          · intro w hSw
            try dsimp only at hSw
            try obtain ⟨s1, s2, s3⟩ := hSw
            first | (go_simp; done) | (go_simp; with_reducible rfl)
          try simp only [Act.put, List.setIfInBounds_toArray, List.set_cons_zero, List.set_cons_succ]
          refine wpAnyV_take (i := 6) (by kernel_rfl) (by kernel_rfl) (by kernel_rfl) (by kernel_rfl) (by kernel_rfl) hc1y (fun o ho => ?_)
          conv at ho => rhs; whnf
          subst ho
          refine ⟨?_, fun _ _ _ h => h, Or.inl ⟨by rfl, ?_⟩, ?_⟩
          rotate_left
          · intro w hSw
            try dsimp only at hSw
            try obtain ⟨s1, s2, s3⟩ := hSw
            first | (go_simp; done) | (go_simp; with_reducible rfl)
          try simp only [Act.put, List.setIfInBounds_toArray, List.set_cons_zero, List.set_cons_succ]
          refine wpAnyV_take (i := 7) (by kernel_rfl) (by kernel_rfl) (by kernel_rfl) (by kernel_rfl) (by kernel_rfl) hc1y (fun o ho => ?_)
          conv at ho => rhs; whnf
          subst ho
          refine ⟨?_, fun _ _ _ h => h, Or.inl ⟨by rfl, ?_⟩, ?_⟩
          rotate_left
          · intro w hSw
            try dsimp only at hSw
            try obtain ⟨s1, s2, s3⟩ := hSw
            first | (go_simp; done) | (go_simp; with_reducible rfl)
          try simp only [Act.put, List.setIfInBounds_toArray, List.set_cons_zero, List.set_cons_succ]
          refine wpAnyV_take (i := 9) (by kernel_rfl) (by kernel_rfl) (by kernel_rfl) (by kernel_rfl) (by kernel_rfl) hc1y (fun o ho => ?_)
          conv at ho => rhs; whnf
          subst ho
          refine ⟨?_, fun _ _ _ h => h, Or.inl ⟨by rfl, ?_⟩, ?_⟩
          rotate_left
          · intro w hSw
            try dsimp only at hSw
            try obtain ⟨s1, s2, s3⟩ := hSw
            first | (go_simp; done) | (go_simp; with_reducible rfl)
          try simp only [Act.put, List.setIfInBounds_toArray, List.set_cons_zero, List.set_cons_succ]
          refine wpAnyV_take (i := 10) (by kernel_rfl) (by kernel_rfl) (by kernel_rfl) (by kernel_rfl) (by kernel_rfl) hc1y (fun o ho => ?_)
          conv at ho => rhs; whnf
          subst ho
          refine ⟨?_, fun _ _ _ h => h, Or.inl ⟨by rfl, ?_⟩, ?_⟩
          rotate_left
          · intro w hSw
            try dsimp only at hSw
            try obtain ⟨s1, s2, s3⟩ := hSw
            first | (go_simp; done) | (go_simp; with_reducible rfl)
          try simp only [Act.put, List.setIfInBounds_toArray, List.set_cons_zero, List.set_cons_succ]
          refine wpAnyV_take (i := 11) (by kernel_rfl) (by kernel_rfl) (by kernel_rfl) (by kernel_rfl) (by kernel_rfl) hc1y (fun o ho => ?_)
          conv at ho => rhs; whnf
          subst ho
          refine ⟨?_, fun _ _ _ h => h, Or.inl ⟨by rfl, ?_⟩, ?_⟩
          rotate_left
          · intro w hSw
            try dsimp only at hSw
            try obtain ⟨s1, s2, s3⟩ := hSw
            first | (go_simp; done) | (go_simp; with_reducible rfl)
          try simp only [Act.put, List.setIfInBounds_toArray, List.set_cons_zero, List.set_cons_succ]
          refine wpAnyV_take (i := 12) (by kernel_rfl) (by kernel_rfl) (by kernel_rfl) (by kernel_rfl) (by kernel_rfl) hc1y (fun o ho => ?_)
          conv at ho => rhs; whnf
          subst ho
          refine ⟨?_, fun _ _ _ h => h, Or.inl ⟨by rfl, ?_⟩, ?_⟩
          rotate_left
          · intro w hSw
            try dsimp only at hSw
            try obtain ⟨s1, s2, s3⟩ := hSw
            first | (go_simp; done) | (go_simp; with_reducible rfl)
          try simp only [Act.put, List.setIfInBounds_toArray, List.set_cons_zero, List.set_cons_succ]
          refine wpAnyV_take (i := 13) (by kernel_rfl) (by kernel_rfl) (by kernel_rfl) (by kernel_rfl) (by kernel_rfl) hc1y (fun o ho => ?_)
          conv at ho => rhs; whnf
          subst ho
          refine ⟨?_, fun _ _ _ h => h, Or.inl ⟨by rfl, ?_⟩, ?_⟩
          rotate_left
          · intro w hSw
            try dsimp only at hSw
            try obtain ⟨s1, s2, s3⟩ := hSw
            first | (go_simp; done) | (go_simp; with_reducible rfl)
          try simp only [Act.put, List.setIfInBounds_toArray, List.set_cons_zero, List.set_cons_succ]
          refine wpAnyV_take (i := 14) (by kernel_rfl) (by kernel_rfl) (by kernel_rfl) (by kernel_rfl) (by kernel_rfl) hc1y (fun o ho => ?_)
          conv at ho => rhs; whnf
          subst ho
          refine ⟨?_, fun _ _ _ h => h, Or.inl ⟨by rfl, ?_⟩, ?_⟩
          rotate_left
          · intro w hSw
            try dsimp only at hSw
            try obtain ⟨s1, s2, s3⟩ := hSw
            first | (go_simp; done) | (go_simp; with_reducible rfl)
          try simp only [Act.put, List.setIfInBounds_toArray, List.set_cons_zero, List.set_cons_succ]
          refine wpAnyV_take (i := 15) (by kernel_rfl) (by kernel_rfl) (by kernel_rfl) (by kernel_rfl) (by kernel_rfl) hc1y (fun o ho => ?_)
          conv at ho => rhs; whnf
          subst ho
          refine ⟨?_, fun _ _ _ h => h, Or.inl ⟨by rfl, ?_⟩, ?_⟩
          rotate_left
          · intro w hSw
            try dsimp only at hSw
            try obtain ⟨s1, s2, s3⟩ := hSw
            first | (go_simp; done) | (go_simp; with_reducible rfl)
          try simp only [Act.put, List.setIfInBounds_toArray, List.set_cons_zero, List.set_cons_succ]
          refine wpAnyV_one (i := 1) (by kernel_rfl) (by kernel_rfl) (fun o ho K hK => ?_)
          conv at ho => rhs; whnf
          subst ho
          go_simp
          refine hK.out _ _ (Or.inr (((Ext.refl NoB _).alloc _).cell hc1y nb)) ?_
          clear hK K
          try simp only [Act.put, List.setIfInBounds_toArray, List.set_cons_zero, List.set_cons_succ]
          refine wpAnyV_one (i := 8) (by kernel_rfl) (by kernel_rfl) (fun o ho K hK => ?_)
          conv at ho => rhs; whnf
          subst ho
          refine step_appendW wy 28 16 elem_tm timerE_len timerE_one (some (wy.heap.size)) (.slice (some ⟨wy.heap.size, 0, none⟩) 0 0) ([]) (L.take i) (.tmp 26) (.tmp 32) ((some ⟨b', o, none⟩)) (c) (b') (o) (i) q1'.out q2 q3'.out (ne_own (by omega)) rfl rfl rfl rfl ((Ext.refl NoB wy).drew.alloc _) (SlO.made (b := wy.heap.size) (xs := ([] : List Tm)) (cs := #[]) (alloc_at wy.drew _) rfl timerE_len (Nat.zero_le _)) ((SlR.keep hLy ((Ext.refl NoB wy).drew.alloc _) nb1).take timerE_len hi0) (fun v85 w85 g85 hO85 hx85 hE85 hq85 => ?_)
          try go_simp
          refine hK.out _ _ (Or.inr ((hE85).cell hc1y nb)) ?_
          clear hK K
          try simp only [Act.put, List.setIfInBounds_toArray, List.set_cons_zero, List.set_cons_succ]
          refine wpAnyV_one (i := 16) (by kernel_rfl) (by kernel_rfl) (fun o ho K hK => ?_)
          conv at ho => rhs; whnf
          subst ho
          refine step_appendW wy 28 16 elem_tm timerE_len timerE_one (g85) (v85) ([] ++ L.take i) (L.drop (i + 1)) (.tmp 33) (.tmp 40) (some ⟨b', o + (i + 1) * 2, none⟩) (c - (i + 1)) (b') (o + (i + 1) * 2) (L.length - (i + 1)) q4 q5 q8'.out hq85 rfl rfl rfl rfl (hE85) (hO85) ((SlR.keep hLy hE85 nb1).dropK (n := i + 1) timerE_len hi1 (fun _ => rfl)) (fun v97 w97 g97 hO97 hx97 hE97 hq97 => ?_)
          generalize hl97 : [] ++ L.take i ++ L.drop (i + 1) = L97 at hO97
          have hl97' := Lib.hid hl97
          clear hl97
          obtain ⟨A97, c97, b97, o97, rfl, hr97, hg97⟩ := hO97.read
          try go_simp
          refine hK.out _ _ (Or.inr ((hE97).cell hc1y nb)) ?_
          clear hK K
          try simp only [Act.put, List.setIfInBounds_toArray, List.set_cons_zero, List.set_cons_succ]
          have zc97 := hE97.cell hc1y nb
          have zf97 := frz0 (off := 1) (hE97.keep hby1 nb)
          refine wpAnyV_one (i := 17) (by kernel_rfl) (by kernel_rfl) (fun o ho K hK => ?_)
          conv at ho => rhs; whnf
          subst ho
          go_simp
          refine hK.out _ _ (Or.inr ((hE97).cell hc1y nb)) ?_
          clear hK K
          try simp only [Act.put, List.setIfInBounds_toArray, List.set_cons_zero, List.set_cons_succ]
          refine wpAnyV_one (i := 18) (by kernel_rfl) (by kernel_rfl) (fun o ho K hK => ?_)
          conv at ho => rhs; whnf
          subst ho
          go_simp
          refine hK.out _ _ (Or.inr ((hE97).cell hc1y nb)) ?_
          clear hK K
          try simp only [Act.put, List.setIfInBounds_toArray, List.set_cons_zero, List.set_cons_succ]
          refine wpAnyV_one (i := 19) (by kernel_rfl) (by kernel_rfl) (fun o ho K hK => ?_)
          conv at ho => rhs; whnf
          subst ho
          go_simp
          refine hK.out _ _ (Or.inl rfl) ?_
          clear hK K
          try simp only [Act.put, List.setIfInBounds_toArray, List.set_cons_zero, List.set_cons_succ]
          refine wpAnyV_done (by kernel_rfl) ?_ _
          clear zc97 zf97 hwt hwr
          go_wp2_with fail
          go_ret
          exact refCanW_end hlt hid.out hno.out hby1 hl97'.out hO97 hE97 hq97 hg97
      · have t1 : (ui == id) = false := by simp [hui]
        go_wp2_with fail
        go_round
        case rel => exact ⟨i + 1, by omega, by go_num, hstep.out hui⟩
        case measure => simp [intOf]; omega
    · have t0 : decide (i < L.length) = false := by simp [hlt]
      have hn : Hid (refD L id = none) := by
        show _ = _
        unfold refD
        rw [Option.map_eq_none_iff, List.find?_eq_none]
        intro t ht
        obtain ⟨q, hq, rfl⟩ := List.mem_iff_getElem.1 ht
        simpa using hno.out q hq (by omega)
      go_wp2_with fail
      go_ret
      exact ⟨L, g, by rw [hn.out]; rfl, .inl ⟨hn.out, rfl⟩, hR, Ext.refl _ _, fun q e => .inl e⟩

end Go.Proofs.Ytnobodgjabgikaa
