/- The reference's wheel: Add, Cancel. -/
import Derived.Test.YtnobodgjabgikaaProg
import Derived.Test.YtnobodgjabgikaaWhZ
namespace Go.Proofs.Ytnobodgjabgikaa
open Go.RowKit Go.Sort
set_option linter.unusedSimpArgs false
set_option linter.unusedVariables false

theorem ne_own {n m : Nat} (h : n ≤ m) : ∀ q, some m = some q → n ≤ q := fun q e => by injection e with e; omega
theorem some_ne {n m : Nat} (h : n ≠ m) : ¬ some n = some m := fun e => h (by injection e)

/-- One more in its place. -/
def RefIns (L : List Tm) (t : Tm) (L' : List Tm) : Prop := L'.Pairwise tlt ∧ ∀ x, x ∈ L' ↔ x = t ∨ x ∈ L
theorem refIns_ok {L : List Tm} {t : Tm} (k : Nat) (hs : L.Pairwise tlt) (hlow : ∀ q (h : q < L.length), q < k → tlt L[q] t) (hhigh : ∀ q (h : q < L.length), k ≤ q → tlt t L[q]) : RefIns L t ([] ++ L.take k ++ [t] ++ L.drop k) := by
  have h1 : ∀ a ∈ L.take k, tlt a t := fun a ha => by
    obtain ⟨j, hj, rfl⟩ := List.mem_iff_getElem.1 ha
    rw [List.length_take] at hj
    rw [List.getElem_take]
    exact hlow j (by omega) (by omega)
  have h2 : ∀ a ∈ L.drop k, tlt t a := fun a ha => by
    obtain ⟨j, hj, rfl⟩ := List.mem_iff_getElem.1 ha
    rw [List.length_drop] at hj
    rw [List.getElem_drop]
    exact hhigh (k + j) (by omega) (by omega)
  refine ⟨?_, fun x => ?_⟩
  · rw [List.nil_append, List.append_assoc, List.pairwise_append]
    refine ⟨hs.sublist (List.take_sublist _ _), ?_, fun a ha b hb => ?_⟩
    · rw [List.singleton_append, List.pairwise_cons]
      exact ⟨h2, hs.sublist (List.drop_sublist _ _)⟩
    · rw [List.singleton_append, List.mem_cons] at hb
      rcases hb with rfl | hb
      · exact h1 a ha
      · exact tlt_trans (h1 a ha) (h2 b hb)
  · rw [List.nil_append, List.mem_append, List.mem_append, List.mem_singleton]
    constructor
    · rintro ((h | h) | h)
      · exact .inr (List.mem_of_mem_take h)
      · exact .inl h
      · exact .inr (List.mem_of_mem_drop h)
    · rintro (h | h)
      · exact .inl (.inr h)
      · rw [← List.take_append_drop k L, List.mem_append] at h
        exact h.elim (fun h => .inl (.inl h)) .inr

/-- What Add does. -/
def RefAddTo (L : List Tm) (id : Int) (due : Nat) (er : Int) (L' : List Tm) : Prop :=
  (id < 1 ∧ er = 1 ∧ L' = L) ∨ (1 ≤ id ∧ (refD L id).isSome = true ∧ er = 9 ∧ L' = L) ∨ (1 ≤ id ∧ refD L id = none ∧ 1000 ≤ L.length ∧ er = 65 ∧ L' = L) ∨
  (1 ≤ id ∧ refD L id = none ∧ L.length < 1000 ∧ er = 0 ∧ RefIns L ((due : Int), id) L')
def RefAddW (b now : Nat) (L : List Tm) (g : Option Nat) (id : Int) (due : Nat) (w : World) (e : Ending) (w' : World) : Prop :=
  ∃ er L' g', e = .returned (.int .i64 er) ∧ RefAddTo L id due er L' ∧ RefW w' b now L' g' ∧ Ext (fun q => q = b) w w' ∧ (∀ q, g' = some q → g = some q ∨ w.heap.size ≤ q)

theorem refW_set {wy w97 : World} {b now : Nat} {v0 : Value} {L97 : List Tm} {A97 : Option Addr} {c97 b97 : Nat} {g97 : Option Nat} (hb : wy.heap[b]? = some (.cells #[.int .u64 now, v0] 48 (0, 0)))
    (hO : SlO w97 33 2 timerE g97 (.slice A97 L97.length c97) L97) (hE : Ext NoB wy w97) (hq : ∀ q, g97 = some q → wy.heap.size ≤ q) :
    RefW (w97.setCell ⟨b, 1, none⟩ (.slice A97 L97.length c97)) b now L97 g97 ∧ Ext (fun q => q = b) wy (w97.setCell ⟨b, 1, none⟩ (.slice A97 L97.length c97)) := by
  have hbw := lt_of_block hb
  have hset : Ext (fun q => q = b) w97 (w97.setCell ⟨b, 1, none⟩ (.slice A97 L97.length c97)) := (Ext.refl (fun q => q = b) w97).setCell (fun _ => rfl) _
  obtain ⟨A', c', b', o', e, hr, hg⟩ := hO.read
  have hcan := hO.can
  simp only [Value.slice.injEq, true_and] at e
  obtain ⟨rfl, rfl⟩ := e
  refine ⟨⟨A97, c97, b', o', two_set1 (hE.keep hb nb), hr.keep hset (fun hp e => by have := hq b' (hg hp); omega), hg, fun e => by have := hq b e; omega, hcan, fun q e => ?_⟩, (hE.mono (fun _ _ e => e.elim)).trans hset (fun _ _ e => e)⟩
  have := hO.lt e
  have := hset.size
  omega

theorem refAddW_end {w wy w97 : World} {b now : Nat} {L : List Tm} {g : Option Nat} {id : Int} {due : Nat} {v0 : Value} {L97 : List Tm} {A97 : Option Addr} {c97 b97 : Nat} {g97 : Option Nat} (hxy : Ext NoB w wy) (hb : wy.heap[b]? = some (.cells #[.int .u64 now, v0] 48 (0, 0))) (hbw : b < w.heap.size)
    (hgt : 1 ≤ id) (hins : RefIns L ((due : Int), id) L97) (hok : refD L id = none ∧ L.length < 1000) (hO : SlO w97 33 2 timerE g97 (.slice A97 L97.length c97) L97) (hE : Ext NoB wy w97) (hq : ∀ q, g97 = some q → wy.heap.size ≤ q) (hg : 0 < L97.length → g97 = some b97) :
    RefAddW b now L g id due w (.returned (.int .i64 0)) (w97.setCell ⟨b, 1, none⟩ (.slice A97 L97.length c97)) := by
  obtain ⟨h1, h2⟩ := refW_set (b97 := b97) hb hO hE hq
  have := hxy.size
  exact ⟨0, L97, g97, rfl, .inr (.inr (.inr ⟨hgt, hok.1, hok.2, rfl, hins⟩)), h1, (hxy.mono (fun _ _ e => e.elim)).trans h2 (fun _ _ e => e), fun q e => .inr (by have := hq q e; omega)⟩

set_option maxRecDepth 100000 in
set_option maxHeartbeats 16000000 in
theorem refAddW_calls (b now : Nat) (L : List Tm) (g : Option Nat) (id : Int) (due : Nat) (w : World) (h : RefW w b now L g) (hs : L.Pairwise tlt) (hdue : due < 18446744073709551616) :
    Calls Try.prog 17 #[.pointer (some ⟨b, 0, none⟩), .int .i64 id, .int .u64 due] w (RefAddW b now L g id due w) := by
  have hsame : ∀ {er : Int}, RefAddTo L id due er L → RefAddW b now L g id due w (.returned (.int .i64 er)) w := fun {er} ha => ⟨er, L, g, rfl, ha, h, Ext.refl _ _, fun q e => .inl e⟩
  have hsame' := Lib.hid (fun er => @hsame er)
  clear hsame
  by_cases hid : id < 1
  · have ha : Hid (RefAddTo L id due 1 L) := .inl ⟨hid, rfl, rfl⟩
    go_enter Try.func17, Try.ntmps17
    go_wp2_with fail
    go_ret
    exact hsame'.out 1 ha.out
  · have hd0 : decide (id < 1) = false := by simp; omega
    have hgt : 1 ≤ id := by omega
    go_enter Try.func17, Try.ntmps17
    go_wp2_with fail
    refine (refDue_calls b now L g id w h).mono ?_
    rintro e w' ⟨rfl, rfl⟩
    cases hrd : refD L id with
    | some d =>
      have ha : Hid (RefAddTo L id due 9 L) := .inr (.inl ⟨hgt, by rw [hrd]; rfl, rfl, rfl⟩)
      have hrd' := Lib.hid hrd
      clear hrd
      simp only [Option.getD_some, Option.isSome_some]
      go_wp2_with fail
      go_ret
      exact hsame'.out 9 ha.out
    | none =>
      have hrd' := Lib.hid hrd
      clear hrd
      simp only [Option.getD_none, Option.isSome_none]
      obtain ⟨A, c, b', o, h1, h2, h3, h4, h5, h6⟩ := h
      have hle := h2.le
      have hmx := h2.max
      unfold maxLen at hmx
      have hbw := lt_of_block h1
      have hc1 : w.cell? ⟨b, 1, none⟩ = some (.slice A L.length c) := by rw [cell_of_row w b 1 _ _ (0, 0) h1]; rfl
      by_cases hm : 1000 ≤ L.length
      · have hd1 : decide (1000 ≤ L.length) = true := by simp; omega
        have hd1' : decide ((1000 : Int) ≤ L.length) = true := by simp; omega
        have ha : Hid (RefAddTo L id due 65 L) := .inr (.inr (.inl ⟨hgt, hrd'.out, hm, rfl, rfl⟩))
        go_wp2_with fail
        go_ret
        exact hsame'.out 65 ha.out
      · have hd1 : decide (1000 ≤ L.length) = false := by simp; omega
        have hd1' : decide ((1000 : Int) ≤ L.length) = false := by simp; omega
        have hok := Lib.hid (show refD L id = none ∧ L.length < 1000 from ⟨hrd'.out, by omega⟩)
        have hsrt := Lib.hid hs
        have hx1 : Ext NoB w (w.alloc (.cells #[.int .u64 due, .int .i64 id] 33)) := (Ext.refl NoB w).alloc _
        have hbt := alloc_at w (.cells #[.int .u64 due, .int .i64 id] 33)
        obtain ⟨tb, htb⟩ : ∃ tb, w.heap.size = tb := ⟨_, rfl⟩
        have hbtb : b ≠ tb := by omega
        clear hs
        go_wp2_with fail
        rw [htb] at hbt
        have htb' := Lib.hid htb
        clear htb
        generalize w.alloc (.cells #[.int .u64 due, .int .i64 id] 33) = w1 at *
        go_loopw [10] (fun i wr => ∃ k : Nat, k ≤ L.length ∧ i = .int .i64 k ∧ Hid (∀ q (h : q < L.length), q < k → tlt L[q] ((due : Int), id)) ∧ Ext NoB w1 wr) (fun i _ => L.length - (intOf i).toNat)
        case atStart => exact ⟨0, Nat.zero_le _, rfl, fun q h hq => absurd hq (Nat.not_lt_zero _), Ext.refl _ _⟩
        case round =>
          obtain ⟨k, hk, rfl, hlow, hxr⟩ := hrel
          have hxw := hx1.trans hxr (fun _ _ e => e)
          have j1 := hxw.keep h1 nb
          have j2 := h2.keep hxw nb1
          have c1 := hxw.cell hc1 nb
          have t1 := hxr.keep hbt nb
          have g0 : wr.cell? ⟨tb, 0, none⟩ = some (.int .u64 due) := by rw [cell_of_row wr tb 0 _ _ (0, 0) t1]; rfl
          have g1 : wr.cell? ⟨tb, 1, none⟩ = some (.int .i64 id) := by rw [cell_of_row wr tb 1 _ _ (0, 0) t1]; rfl
          by_cases hlt : k < L.length
          · have t0 : decide (k < L.length) = true := by simp [hlt]
            obtain rfl := j2.addr (by omega)
            have e0 := j2.cell timerE_len k L[k] (List.getElem?_eq_getElem hlt) 0 _ rfl
            have e1 := j2.cell timerE_len k L[k] (List.getElem?_eq_getElem hlt) 1 _ rfl
            rw [Nat.add_zero] at e0
            have hstep : Hid (tlt L[k] ((due : Int), id) → ∀ q (h : q < L.length), q < k + 1 → tlt L[q] ((due : Int), id)) := fun hl q h hq => by
              by_cases hqt : q = k
              · subst hqt; exact hl
              · exact hlow.out q h (by omega)
            have hne : Hid (L[k] ≠ ((due : Int), id)) := fun e => by
              have : (L.find? (fun t => t.2 = id)).isSome = true := List.find?_isSome.2 ⟨L[k], List.getElem_mem hlt, by rw [e]; simp⟩
              have h0 := hrd'.out
              unfold refD at h0
              rw [Option.map_eq_none_iff] at h0
              rw [h0] at this; cases this
            have hhigh : Hid (tlt ((due : Int), id) L[k] → ∀ q (h : q < L.length), k ≤ q → tlt ((due : Int), id) L[q]) := fun hl q h hq => by
              by_cases hqt : q = k
              · subst hqt; exact hl
              · exact tlt_trans hl (List.pairwise_iff_getElem.1 hsrt.out k q hlt h (by omega))
            generalize L[k] = u at *
            obtain ⟨ud, ui⟩ := u
            dsimp only at e0 e1
            by_cases hd : tlt (ud, ui) ((due : Int), id)
            · have t2 : decide (tlt (ud, ui) ((due : Int), id)) = true := decide_eq_true hd
              go_wp2_with fail
              go_region_held3 (fun w' => w'.cell? ⟨b', o + k * 2, none⟩ = some (.int .u64 ud) ∧ w'.cell? ⟨b', o + k * 2 + 1, none⟩ = some (.int .i64 ui) ∧ w'.cell? ⟨tb, 0, none⟩ = some (.int .u64 due) ∧ w'.cell? ⟨tb, 1, none⟩ = some (.int .i64 id) ∧ w'.cell? ⟨b, 1, none⟩ = some (.slice (some ⟨b', o, none⟩) L.length c)) (first
                | exact ⟨e0, e1, g0, g1, c1⟩
                | exact ⟨hxc.cell e0 nb, hxc.cell e1 nb, hxc.cell g0 nb, hxc.cell g1 nb, hxc.cell c1 nb⟩) (first
                | (go_at_call 33; (with_reducible refine (less_calls (ud, ui) ((due : Int), id) _).mono ?_); rintro e wc ⟨rfl, hxc⟩))
              go_wp2_with fail
              go_roundw
              case rel => exact ⟨k + 1, by omega, by go_num, hstep.out hd, (hxr.trans (Ext.refl NoB wr).drew (fun _ _ h => h)).trans hxc (fun _ _ h => h)⟩
              case measure => simp [intOf]; omega
            · have t2 : decide (tlt (ud, ui) ((due : Int), id)) = false := decide_eq_false hd
              have hstop := Lib.hid (hhigh.out (by
                by_cases h : tlt ((due : Int), id) (ud, ui)
                · exact h
                · exact absurd (tlt_tri hd h) hne.out))
              clear hd
              go_wp2_with fail
              go_region_held3 (fun w' => w'.cell? ⟨b', o + k * 2, none⟩ = some (.int .u64 ud) ∧ w'.cell? ⟨b', o + k * 2 + 1, none⟩ = some (.int .i64 ui) ∧ w'.cell? ⟨tb, 0, none⟩ = some (.int .u64 due) ∧ w'.cell? ⟨tb, 1, none⟩ = some (.int .i64 id) ∧ w'.cell? ⟨b, 1, none⟩ = some (.slice (some ⟨b', o, none⟩) L.length c)) (first
                | exact ⟨e0, e1, g0, g1, c1⟩
                | exact ⟨hxc.cell e0 nb, hxc.cell e1 nb, hxc.cell g0 nb, hxc.cell g1 nb, hxc.cell c1 nb⟩) (first
                | (go_at_call 33; (with_reducible refine (less_calls (ud, ui) ((due : Int), id) _).mono ?_); rintro e wy ⟨rfl, hxc⟩))
              have hxrw := (Ext.refl NoB wr).drew.trans hxc (fun _ _ e => e)
              have hxy := hxw.trans hxrw (fun _ _ e => e)
              have hby1 := hxrw.keep j1 nb
              have hLy := j2.keep hxrw nb1
              have hc1y := hxrw.cell c1 nb
              have hg0y := hxrw.cell g0 nb
              have hg1y := hxrw.cell g1 nb
              clear e0 e1 g0 g1 c1 hc1
              go_wp2_with fail
              have hki : (k : Int) ≤ (c : Int) := by omega
              have hkn : k ≤ c := by omega
              have hct : ¬ c = k := by omega
              have q1' := Lib.hid (show (([] : List Tm).length + (L.take k).length) * 16 ≤ 140737488355328 by rw [List.length_take, List.length_nil]; omega)
              have q2 : ([] : List Tm).length + (L.take k).length ≤ maxLen := by rw [List.length_take, List.length_nil]; unfold maxLen; omega
              have q3' := Lib.hid (show k = (L.take k).length by first | (rw [List.length_take]; omega) | simp)
              have q4 : (([] ++ L.take k).length + [(((due : Int), id) : Tm)].length) * 16 ≤ 140737488355328 := by rw [List.length_append, List.length_nil, List.length_take, List.length_singleton]; omega
              have q5 : ([] ++ L.take k).length + [(((due : Int), id) : Tm)].length ≤ maxLen := by rw [List.length_append, List.length_nil, List.length_take, List.length_singleton]; unfold maxLen; omega
              have q6 : (([] ++ L.take k ++ [(((due : Int), id) : Tm)]).length + (L.drop k).length) * 16 ≤ 140737488355328 := by rw [List.length_append, List.length_append, List.length_nil, List.length_take, List.length_singleton, List.length_drop]; omega
              have q7 : ([] ++ L.take k ++ [(((due : Int), id) : Tm)]).length + (L.drop k).length ≤ maxLen := by rw [List.length_append, List.length_append, List.length_nil, List.length_take, List.length_singleton, List.length_drop]; unfold maxLen; omega
              have q8' := Lib.hid (show L.length - k = (L.drop k).length by first | (rw [List.length_drop]; done) | (rw [List.length_drop]; omega) | simp)
              have hdn := Lib.hid (show k = L.length → L.drop k = [] from fun e => List.drop_of_length_le (Nat.le_of_eq e.symm))
              have hcm : c - k ≤ maxLen := by unfold maxLen; omega
              refine wp_region_V 21 (fun w' => w'.cell? ⟨b, 1, none⟩ = some (.slice (some ⟨b', o, none⟩) L.length c) ∧ w'.cell? ⟨tb, 0, none⟩ = some (.int .u64 due) ∧ w'.cell? ⟨tb, 1, none⟩ = some (.int .i64 id)) (by kernel_rfl) ?_
              try simp only [Act.put, List.setIfInBounds_toArray, List.set_cons_zero, List.set_cons_succ]
              refine wpAnyV_take (i := 0) (by kernel_rfl) (by kernel_rfl) (by kernel_rfl) (by kernel_rfl) (by kernel_rfl) ⟨hc1y, hg0y, hg1y⟩ (fun o ho => ?_)
              conv at ho => rhs; whnf
              subst ho
              refine ⟨?_, fun _ _ _ h => h, Or.inl ⟨by rfl, ?_⟩, ?_⟩
              rotate_left
              · intro w hSw
                try dsimp only at hSw
                try obtain ⟨s1, s2, s3⟩ := hSw
                first | (go_simp; done) | (go_simp; with_reducible rfl)
              try simp only [Act.put, List.setIfInBounds_toArray, List.set_cons_zero, List.set_cons_succ]
              refine wpAnyV_take (i := 2) (by kernel_rfl) (by kernel_rfl) (by kernel_rfl) (by kernel_rfl) (by kernel_rfl) ⟨hc1y, hg0y, hg1y⟩ (fun o ho => ?_)
              conv at ho => rhs; whnf
              subst ho
              refine ⟨?_, fun _ _ _ h => h, Or.inl ⟨by rfl, ?_⟩, ?_⟩
              rotate_left
              · intro w hSw
                try dsimp only at hSw
                try obtain ⟨s1, s2, s3⟩ := hSw
                first | (go_simp; done) | (go_simp; with_reducible rfl)
              try simp only [Act.put, List.setIfInBounds_toArray, List.set_cons_zero, List.set_cons_succ]
              refine wpAnyV_take (i := 3) (by kernel_rfl) (by kernel_rfl) (by kernel_rfl) (by kernel_rfl) (by kernel_rfl) ⟨hc1y, hg0y, hg1y⟩ (fun o ho => ?_)
              conv at ho => rhs; whnf
              subst ho
              refine ⟨?_, fun _ _ _ h => h, Or.inl ⟨by rfl, ?_⟩, ?_⟩
              rotate_left
              · intro w hSw
                try dsimp only at hSw
                try obtain ⟨s1, s2, s3⟩ := hSw
                first | (go_simp; done) | (go_simp; with_reducible rfl)
              try simp only [Act.put, List.setIfInBounds_toArray, List.set_cons_zero, List.set_cons_succ]
              refine wpAnyV_take (i := 4) (by kernel_rfl) (by kernel_rfl) (by kernel_rfl) (by kernel_rfl) (by kernel_rfl) ⟨hc1y, hg0y, hg1y⟩ (fun o ho => ?_)
              conv at ho => rhs; whnf
              subst ho
              refine ⟨?_, fun _ _ _ h => h, Or.inl ⟨by rfl, ?_⟩, ?_⟩
              rotate_left
              · intro w hSw
                try dsimp only at hSw
                try obtain ⟨s1, s2, s3⟩ := hSw
                first | (go_simp; done) | (go_simp; with_reducible rfl)
              try simp only [Act.put, List.setIfInBounds_toArray, List.set_cons_zero, List.set_cons_succ]
              refine wpAnyV_take (i := 5) (by kernel_rfl) (by kernel_rfl) (by kernel_rfl) (by kernel_rfl) (by kernel_rfl) ⟨hc1y, hg0y, hg1y⟩ (fun o ho => ?_)
              conv at ho => rhs; whnf
              subst ho
              refine ⟨?_, fun _ _ _ h => h, Or.inl ⟨by rfl, ?_⟩, ?_⟩
              rotate_left
              · intro w hSw
                try dsimp only at hSw
                try obtain ⟨s1, s2, s3⟩ := hSw
                first | (go_simp; done) | (go_simp; with_reducible rfl)
              try simp only [Act.put, List.setIfInBounds_toArray, List.set_cons_zero, List.set_cons_succ]
              refine wpAnyV_take (i := 6) (by kernel_rfl) (by kernel_rfl) (by kernel_rfl) (by kernel_rfl) (by kernel_rfl) ⟨hc1y, hg0y, hg1y⟩ (fun o ho => ?_)
              conv at ho => rhs; whnf
              subst ho
              refine ⟨?_, fun _ _ _ h => h, Or.inl ⟨by rfl, ?_⟩, ?_⟩
              rotate_left
              · intro w hSw
                try dsimp only at hSw
                try obtain ⟨s1, s2, s3⟩ := hSw
                first | (go_simp; done) | (go_simp; with_reducible rfl)
              try simp only [Act.put, List.setIfInBounds_toArray, List.set_cons_zero, List.set_cons_succ]
              refine wpAnyV_take (i := 7) (by kernel_rfl) (by kernel_rfl) (by kernel_rfl) (by kernel_rfl) (by kernel_rfl) ⟨hc1y, hg0y, hg1y⟩ (fun o ho => ?_)
              conv at ho => rhs; whnf
              subst ho
              refine ⟨?_, fun _ _ _ h => h, Or.inl ⟨by rfl, ?_⟩, ?_⟩
              rotate_left
              · intro w hSw
                try dsimp only at hSw
                try obtain ⟨s1, s2, s3⟩ := hSw
                first | (go_simp; done) | (go_simp; with_reducible rfl)
              try simp only [Act.put, List.setIfInBounds_toArray, List.set_cons_zero, List.set_cons_succ]
              refine wpAnyV_take (i := 9) (by kernel_rfl) (by kernel_rfl) (by kernel_rfl) (by kernel_rfl) (by kernel_rfl) ⟨hc1y, hg0y, hg1y⟩ (fun o ho => ?_)
              conv at ho => rhs; whnf
              subst ho
              refine ⟨?_, fun _ _ _ h => h, Or.inl ⟨by rfl, ?_⟩, ?_⟩
              rotate_left
              · intro w hSw
                try dsimp only at hSw
                try obtain ⟨s1, s2, s3⟩ := hSw
                first | (go_simp; done) | (go_simp; with_reducible rfl)
              try simp only [Act.put, List.setIfInBounds_toArray, List.set_cons_zero, List.set_cons_succ]
              refine wpAnyV_take (i := 12) (by kernel_rfl) (by kernel_rfl) (by kernel_rfl) (by kernel_rfl) (by kernel_rfl) ⟨hc1y, hg0y, hg1y⟩ (fun o ho => ?_)
              conv at ho => rhs; whnf
              subst ho
              refine ⟨?_, fun _ _ _ h => h, Or.inl ⟨by rfl, ?_⟩, ?_⟩
              rotate_left
              · intro w hSw
                try dsimp only at hSw
                try obtain ⟨s1, s2, s3⟩ := hSw
                first | (go_simp; done) | (go_simp; with_reducible rfl)
              try simp only [Act.put, List.setIfInBounds_toArray, List.set_cons_zero, List.set_cons_succ]
              refine wpAnyV_take (i := 13) (by kernel_rfl) (by kernel_rfl) (by kernel_rfl) (by kernel_rfl) (by kernel_rfl) ⟨hc1y, hg0y, hg1y⟩ (fun o ho => ?_)
              conv at ho => rhs; whnf
              subst ho
              refine ⟨?_, fun _ _ _ h => h, Or.inl ⟨by rfl, ?_⟩, ?_⟩
              rotate_left
              · intro w hSw
                try dsimp only at hSw
                try obtain ⟨s1, s2, s3⟩ := hSw
                first | (go_simp; done) | (go_simp; with_reducible rfl)
              try simp only [Act.put, List.setIfInBounds_toArray, List.set_cons_zero, List.set_cons_succ]
              refine wpAnyV_take (i := 14) (by kernel_rfl) (by kernel_rfl) (by kernel_rfl) (by kernel_rfl) (by kernel_rfl) ⟨hc1y, hg0y, hg1y⟩ (fun o ho => ?_)
              conv at ho => rhs; whnf
              subst ho
              refine ⟨?_, fun _ _ _ h => h, Or.inl ⟨by rfl, ?_⟩, ?_⟩
              rotate_left
              · intro w hSw
                try dsimp only at hSw
                try obtain ⟨s1, s2, s3⟩ := hSw
                first | (go_simp; done) | (go_simp; with_reducible rfl)
              try simp only [Act.put, List.setIfInBounds_toArray, List.set_cons_zero, List.set_cons_succ]
              refine wpAnyV_take (i := 15) (by kernel_rfl) (by kernel_rfl) (by kernel_rfl) (by kernel_rfl) (by kernel_rfl) ⟨hc1y, hg0y, hg1y⟩ (fun o ho => ?_)
              conv at ho => rhs; whnf
              subst ho
              refine ⟨?_, fun _ _ _ h => h, Or.inl ⟨by rfl, ?_⟩, ?_⟩
              rotate_left
              · intro w hSw
                try dsimp only at hSw
                try obtain ⟨s1, s2, s3⟩ := hSw
                first | (go_simp; done) | (go_simp; with_reducible rfl)
              try simp only [Act.put, List.setIfInBounds_toArray, List.set_cons_zero, List.set_cons_succ]
              refine wpAnyV_take (i := 16) (by kernel_rfl) (by kernel_rfl) (by kernel_rfl) (by kernel_rfl) (by kernel_rfl) ⟨hc1y, hg0y, hg1y⟩ (fun o ho => ?_)
              conv at ho => rhs; whnf
              subst ho
              refine ⟨?_, fun _ _ _ h => h, Or.inl ⟨by rfl, ?_⟩, ?_⟩
              rotate_left
              · intro w hSw
                try dsimp only at hSw
                try obtain ⟨s1, s2, s3⟩ := hSw
                first | (go_simp; done) | (go_simp; with_reducible rfl)
              try simp only [Act.put, List.setIfInBounds_toArray, List.set_cons_zero, List.set_cons_succ]
              refine wpAnyV_take (i := 17) (by kernel_rfl) (by kernel_rfl) (by kernel_rfl) (by kernel_rfl) (by kernel_rfl) ⟨hc1y, hg0y, hg1y⟩ (fun o ho => ?_)
              conv at ho => rhs; whnf
              subst ho
              refine ⟨?_, fun _ _ _ h => h, Or.inl ⟨by rfl, ?_⟩, ?_⟩
              rotate_left
              · intro w hSw
                try dsimp only at hSw
                try obtain ⟨s1, s2, s3⟩ := hSw
                first | (go_simp; done) | (go_simp; with_reducible rfl)
              try simp only [Act.put, List.setIfInBounds_toArray, List.set_cons_zero, List.set_cons_succ]
              refine wpAnyV_two (i := 1) (j := 10) (by kernel_rfl) (by kernel_rfl) (by kernel_rfl) (fun o ho K hK => ?_) (fun o ho K hK => ?_)
              · conv at ho => rhs; whnf
                subst ho
                go_simp
                refine hK.out _ _ (Or.inr ⟨((Ext.refl NoB _).alloc _).cell hc1y nb, ((Ext.refl NoB _).alloc _).cell hg0y nb, ((Ext.refl NoB _).alloc _).cell hg1y nb⟩) ?_
                clear hK K
                try simp only [Act.put, List.setIfInBounds_toArray, List.set_cons_zero, List.set_cons_succ]
                refine wpAnyV_two (i := 8) (j := 10) (by kernel_rfl) (by kernel_rfl) (by kernel_rfl) (fun o ho K hK => ?_) (fun o ho K hK => ?_)
                · conv at ho => rhs; whnf
                  subst ho
                  refine step_appendW wy 28 16 elem_tm timerE_len timerE_one (some (wy.heap.size)) (.slice (some ⟨wy.heap.size, 0, none⟩) 0 0) ([]) (L.take k) (.tmp 50) (.tmp 56) ((some ⟨b', o, none⟩)) (c) (b') (o) (k) q1'.out q2 q3'.out (ne_own (by omega)) rfl rfl rfl rfl ((Ext.refl NoB wy).drew.alloc _) (SlO.made (b := wy.heap.size) (xs := ([] : List Tm)) (cs := #[]) (alloc_at wy.drew _) rfl timerE_len (Nat.zero_le _)) ((SlR.keep hLy ((Ext.refl NoB wy).drew.alloc _) nb1).take timerE_len hk) (fun v85 w85 g85 hO85 hx85 hE85 hq85 => ?_)
                  try go_simp
                  refine hK.out _ _ (Or.inr ⟨(hE85).cell hc1y nb, (hE85).cell hg0y nb, (hE85).cell hg1y nb⟩) ?_
                  clear hK K
                  try simp only [Act.put, List.setIfInBounds_toArray, List.set_cons_zero, List.set_cons_succ]
                  refine wpAnyV_one (i := 10) (by kernel_rfl) (by kernel_rfl) (fun o ho K hK => ?_)
                  conv at ho => rhs; whnf
                  subst ho
                  go_simp
                  refine hK.out _ _ (Or.inr ⟨Ext.cell ((Ext.refl NoB _).alloc _) (hE85.cell hc1y nb) nb, Ext.cell ((Ext.refl NoB _).alloc _) (hE85.cell hg0y nb) nb, Ext.cell ((Ext.refl NoB _).alloc _) (hE85.cell hg1y nb) nb⟩) ?_
                  clear hK K
                  try simp only [Act.put, List.setIfInBounds_toArray, List.set_cons_zero, List.set_cons_succ]
                  refine wpAnyV_one (i := 11) (by kernel_rfl) (by kernel_rfl) (fun o ho K hK => ?_)
                  conv at ho => rhs; whnf
                  subst ho
                  refine step_appendW wy 28 16 elem_tm timerE_len timerE_one (g85) (v85) ([] ++ L.take k) ([(((due : Int), id) : Tm)]) (.tmp 57) (.tmp 59) (some ⟨w85.heap.size, 0, none⟩) (1) (w85.heap.size) (0) (1) q4 q5 rfl hq85 rfl rfl rfl rfl (hE85.alloc _) (hO85.keep (F := NoB) ((Ext.refl NoB w85).alloc _) (fun _ _ => nb)) (SlR.one' (E := 33) (fr := (0, 0)) (cs := #[.int .u64 due, .int .i64 id]) (alloc_at w85 _) rfl) (fun v90 w90 g90 hO90 hx90 hE90 hq90 => ?_)
                  try go_simp
                  refine hK.out _ _ (Or.inr ⟨(hE90).cell hc1y nb, (hE90).cell hg0y nb, (hE90).cell hg1y nb⟩) ?_
                  clear hK K
                  try simp only [Act.put, List.setIfInBounds_toArray, List.set_cons_zero, List.set_cons_succ]
                  refine wpAnyV_one (i := 18) (by kernel_rfl) (by kernel_rfl) (fun o ho K hK => ?_)
                  conv at ho => rhs; whnf
                  subst ho
                  refine step_appendW wy 28 16 elem_tm timerE_len timerE_one (g90) (v90) ([] ++ L.take k ++ [(((due : Int), id) : Tm)]) (L.drop k) (.tmp 60) (.tmp 66) (some ⟨b', o + k * 2, none⟩) (c - k) (b') (o + k * 2) (L.length - k) q6 q7 q8'.out hq90 rfl rfl rfl rfl (hE90) (hO90) ((SlR.keep hLy hE90 nb1).dropK (n := k) timerE_len hk (fun _ => rfl)) (fun v97 w97 g97 hO97 hx97 hE97 hq97 => ?_)
                  generalize hl97 : [] ++ L.take k ++ [(((due : Int), id) : Tm)] ++ L.drop k = L97 at hO97
                  have hl97' := Lib.hid hl97
                  clear hl97
                  obtain ⟨A97, c97, b97, o97, rfl, hr97, hg97⟩ := hO97.read
                  try go_simp
                  refine hK.out _ _ (Or.inr ⟨(hE97).cell hc1y nb, (hE97).cell hg0y nb, (hE97).cell hg1y nb⟩) ?_
                  clear hK K
                  try simp only [Act.put, List.setIfInBounds_toArray, List.set_cons_zero, List.set_cons_succ]
                  have zc97 := hE97.cell hc1y nb
                  have zf97 := frz0 (off := 1) (hE97.keep hby1 nb)
                  refine wpAnyV_one (i := 19) (by kernel_rfl) (by kernel_rfl) (fun o ho K hK => ?_)
                  conv at ho => rhs; whnf
                  subst ho
                  go_simp
                  refine hK.out _ _ (Or.inr ⟨(hE97).cell hc1y nb, (hE97).cell hg0y nb, (hE97).cell hg1y nb⟩) ?_
                  clear hK K
                  try simp only [Act.put, List.setIfInBounds_toArray, List.set_cons_zero, List.set_cons_succ]
                  refine wpAnyV_one (i := 20) (by kernel_rfl) (by kernel_rfl) (fun o ho K hK => ?_)
                  conv at ho => rhs; whnf
                  subst ho
                  go_simp
                  refine hK.out _ _ (Or.inr ⟨(hE97).cell hc1y nb, (hE97).cell hg0y nb, (hE97).cell hg1y nb⟩) ?_
                  clear hK K
                  try simp only [Act.put, List.setIfInBounds_toArray, List.set_cons_zero, List.set_cons_succ]
                  refine wpAnyV_one (i := 21) (by kernel_rfl) (by kernel_rfl) (fun o ho K hK => ?_)
                  conv at ho => rhs; whnf
                  subst ho
                  go_simp
                  refine hK.out _ _ (Or.inl rfl) ?_
                  clear hK K
                  try simp only [Act.put, List.setIfInBounds_toArray, List.set_cons_zero, List.set_cons_succ]
                  refine wpAnyV_done (by kernel_rfl) ?_ _
                  clear zc97 zf97
                  go_wp2_with fail
                  go_ret
                  exact refAddW_end hxy hby1 hbw hgt (by rw [← hl97'.out]; exact refIns_ok k hsrt.out hlow.out hstop.out) hok.out hO97 hE97 hq97 hg97
                · conv at ho => rhs; whnf
                  subst ho
                  go_simp
                  refine hK.out _ _ (Or.inr ⟨(((Ext.refl NoB _).alloc _).alloc _).cell hc1y nb, (((Ext.refl NoB _).alloc _).alloc _).cell hg0y nb, (((Ext.refl NoB _).alloc _).alloc _).cell hg1y nb⟩) ?_
                  clear hK K
                  try simp only [Act.put, List.setIfInBounds_toArray, List.set_cons_zero, List.set_cons_succ]
                  refine wpAnyV_one (i := 8) (by kernel_rfl) (by kernel_rfl) (fun o ho K hK => ?_)
                  conv at ho => rhs; whnf
                  subst ho
                  refine step_appendW wy 28 16 elem_tm timerE_len timerE_one (some (wy.heap.size)) (.slice (some ⟨wy.heap.size, 0, none⟩) 0 0) ([]) (L.take k) (.tmp 50) (.tmp 56) ((some ⟨b', o, none⟩)) (c) (b') (o) (k) q1'.out q2 q3'.out (ne_own (by omega)) rfl rfl rfl rfl (((Ext.refl NoB wy).drew.alloc _).alloc _) (SlO.made (b := wy.heap.size) (xs := ([] : List Tm)) (cs := #[]) (((Ext.refl NoB _).alloc _).keep (alloc_at wy.drew _) nb) rfl timerE_len (Nat.zero_le _)) ((SlR.keep hLy (((Ext.refl NoB wy).drew.alloc _).alloc _) nb1).take timerE_len hk) (fun v85 w85 g85 hO85 hx85 hE85 hq85 => ?_)
                  try go_simp
                  refine hK.out _ _ (Or.inr ⟨(hE85).cell hc1y nb, (hE85).cell hg0y nb, (hE85).cell hg1y nb⟩) ?_
                  clear hK K
                  try simp only [Act.put, List.setIfInBounds_toArray, List.set_cons_zero, List.set_cons_succ]
                  refine wpAnyV_one (i := 11) (by kernel_rfl) (by kernel_rfl) (fun o ho K hK => ?_)
                  conv at ho => rhs; whnf
                  subst ho
                  refine step_appendW wy 28 16 elem_tm timerE_len timerE_one (g85) (v85) ([] ++ L.take k) ([(((due : Int), id) : Tm)]) (.tmp 57) (.tmp 59) (some ⟨wy.heap.size + 1, 0, none⟩) (1) (wy.heap.size + 1) (0) (1) q4 q5 rfl hq85 rfl rfl rfl rfl (hE85) (hO85) (SlR.one' (E := 33) (fr := (0, 0)) (cs := #[.int .u64 due, .int .i64 id]) (hx85.keep (alloc_at' _ _ _ (by simp)) (some_ne (by omega))) rfl) (fun v90 w90 g90 hO90 hx90 hE90 hq90 => ?_)
                  try go_simp
                  refine hK.out _ _ (Or.inr ⟨(hE90).cell hc1y nb, (hE90).cell hg0y nb, (hE90).cell hg1y nb⟩) ?_
                  clear hK K
                  try simp only [Act.put, List.setIfInBounds_toArray, List.set_cons_zero, List.set_cons_succ]
                  refine wpAnyV_one (i := 18) (by kernel_rfl) (by kernel_rfl) (fun o ho K hK => ?_)
                  conv at ho => rhs; whnf
                  subst ho
                  refine step_appendW wy 28 16 elem_tm timerE_len timerE_one (g90) (v90) ([] ++ L.take k ++ [(((due : Int), id) : Tm)]) (L.drop k) (.tmp 60) (.tmp 66) (some ⟨b', o + k * 2, none⟩) (c - k) (b') (o + k * 2) (L.length - k) q6 q7 q8'.out hq90 rfl rfl rfl rfl (hE90) (hO90) ((SlR.keep hLy hE90 nb1).dropK (n := k) timerE_len hk (fun _ => rfl)) (fun v97 w97 g97 hO97 hx97 hE97 hq97 => ?_)
                  generalize hl97 : [] ++ L.take k ++ [(((due : Int), id) : Tm)] ++ L.drop k = L97 at hO97
                  have hl97' := Lib.hid hl97
                  clear hl97
                  obtain ⟨A97, c97, b97, o97, rfl, hr97, hg97⟩ := hO97.read
                  try go_simp
                  refine hK.out _ _ (Or.inr ⟨(hE97).cell hc1y nb, (hE97).cell hg0y nb, (hE97).cell hg1y nb⟩) ?_
                  clear hK K
                  try simp only [Act.put, List.setIfInBounds_toArray, List.set_cons_zero, List.set_cons_succ]
                  have zc97 := hE97.cell hc1y nb
                  have zf97 := frz0 (off := 1) (hE97.keep hby1 nb)
                  refine wpAnyV_one (i := 19) (by kernel_rfl) (by kernel_rfl) (fun o ho K hK => ?_)
                  conv at ho => rhs; whnf
                  subst ho
                  go_simp
                  refine hK.out _ _ (Or.inr ⟨(hE97).cell hc1y nb, (hE97).cell hg0y nb, (hE97).cell hg1y nb⟩) ?_
                  clear hK K
                  try simp only [Act.put, List.setIfInBounds_toArray, List.set_cons_zero, List.set_cons_succ]
                  refine wpAnyV_one (i := 20) (by kernel_rfl) (by kernel_rfl) (fun o ho K hK => ?_)
                  conv at ho => rhs; whnf
                  subst ho
                  go_simp
                  refine hK.out _ _ (Or.inr ⟨(hE97).cell hc1y nb, (hE97).cell hg0y nb, (hE97).cell hg1y nb⟩) ?_
                  clear hK K
                  try simp only [Act.put, List.setIfInBounds_toArray, List.set_cons_zero, List.set_cons_succ]
                  refine wpAnyV_one (i := 21) (by kernel_rfl) (by kernel_rfl) (fun o ho K hK => ?_)
                  conv at ho => rhs; whnf
                  subst ho
                  go_simp
                  refine hK.out _ _ (Or.inl rfl) ?_
                  clear hK K
                  try simp only [Act.put, List.setIfInBounds_toArray, List.set_cons_zero, List.set_cons_succ]
                  refine wpAnyV_done (by kernel_rfl) ?_ _
                  clear zc97 zf97
                  go_wp2_with fail
                  go_ret
                  exact refAddW_end hxy hby1 hbw hgt (by rw [← hl97'.out]; exact refIns_ok k hsrt.out hlow.out hstop.out) hok.out hO97 hE97 hq97 hg97
              · conv at ho => rhs; whnf
                subst ho
                go_simp
                refine hK.out _ _ (Or.inr ⟨((Ext.refl NoB _).alloc _).cell hc1y nb, ((Ext.refl NoB _).alloc _).cell hg0y nb, ((Ext.refl NoB _).alloc _).cell hg1y nb⟩) ?_
                clear hK K
                try simp only [Act.put, List.setIfInBounds_toArray, List.set_cons_zero, List.set_cons_succ]
                refine wpAnyV_one (i := 1) (by kernel_rfl) (by kernel_rfl) (fun o ho K hK => ?_)
                conv at ho => rhs; whnf
                subst ho
                go_simp
                refine hK.out _ _ (Or.inr ⟨(((Ext.refl NoB _).alloc _).alloc _).cell hc1y nb, (((Ext.refl NoB _).alloc _).alloc _).cell hg0y nb, (((Ext.refl NoB _).alloc _).alloc _).cell hg1y nb⟩) ?_
                clear hK K
                try simp only [Act.put, List.setIfInBounds_toArray, List.set_cons_zero, List.set_cons_succ]
                refine wpAnyV_one (i := 8) (by kernel_rfl) (by kernel_rfl) (fun o ho K hK => ?_)
                conv at ho => rhs; whnf
                subst ho
                refine step_appendW wy 28 16 elem_tm timerE_len timerE_one (some (wy.heap.size + 1)) (.slice (some ⟨wy.heap.size + 1, 0, none⟩) 0 0) ([]) (L.take k) (.tmp 50) (.tmp 56) ((some ⟨b', o, none⟩)) (c) (b') (o) (k) q1'.out q2 q3'.out (ne_own (by omega)) rfl rfl rfl rfl (((Ext.refl NoB wy).drew.alloc _).alloc _) (SlO.made (b := wy.heap.size + 1) (xs := ([] : List Tm)) (cs := #[]) (alloc_at' _ _ _ (by simp)) rfl timerE_len (Nat.zero_le _)) ((SlR.keep hLy (((Ext.refl NoB wy).drew.alloc _).alloc _) nb1).take timerE_len hk) (fun v85 w85 g85 hO85 hx85 hE85 hq85 => ?_)
                try go_simp
                refine hK.out _ _ (Or.inr ⟨(hE85).cell hc1y nb, (hE85).cell hg0y nb, (hE85).cell hg1y nb⟩) ?_
                clear hK K
                try simp only [Act.put, List.setIfInBounds_toArray, List.set_cons_zero, List.set_cons_succ]
                refine wpAnyV_one (i := 11) (by kernel_rfl) (by kernel_rfl) (fun o ho K hK => ?_)
                conv at ho => rhs; whnf
                subst ho
                refine step_appendW wy 28 16 elem_tm timerE_len timerE_one (g85) (v85) ([] ++ L.take k) ([(((due : Int), id) : Tm)]) (.tmp 57) (.tmp 59) (some ⟨wy.heap.size, 0, none⟩) (1) (wy.heap.size) (0) (1) q4 q5 rfl hq85 rfl rfl rfl rfl (hE85) (hO85) (SlR.one' (E := 33) (fr := (0, 0)) (cs := #[.int .u64 due, .int .i64 id]) (hx85.keep (((Ext.refl NoB _).alloc _).keep (alloc_at wy.drew _) nb) (some_ne (by omega))) rfl) (fun v90 w90 g90 hO90 hx90 hE90 hq90 => ?_)
                try go_simp
                refine hK.out _ _ (Or.inr ⟨(hE90).cell hc1y nb, (hE90).cell hg0y nb, (hE90).cell hg1y nb⟩) ?_
                clear hK K
                try simp only [Act.put, List.setIfInBounds_toArray, List.set_cons_zero, List.set_cons_succ]
                refine wpAnyV_one (i := 18) (by kernel_rfl) (by kernel_rfl) (fun o ho K hK => ?_)
                conv at ho => rhs; whnf
                subst ho
                refine step_appendW wy 28 16 elem_tm timerE_len timerE_one (g90) (v90) ([] ++ L.take k ++ [(((due : Int), id) : Tm)]) (L.drop k) (.tmp 60) (.tmp 66) (some ⟨b', o + k * 2, none⟩) (c - k) (b') (o + k * 2) (L.length - k) q6 q7 q8'.out hq90 rfl rfl rfl rfl (hE90) (hO90) ((SlR.keep hLy hE90 nb1).dropK (n := k) timerE_len hk (fun _ => rfl)) (fun v97 w97 g97 hO97 hx97 hE97 hq97 => ?_)
                generalize hl97 : [] ++ L.take k ++ [(((due : Int), id) : Tm)] ++ L.drop k = L97 at hO97
                have hl97' := Lib.hid hl97
                clear hl97
                obtain ⟨A97, c97, b97, o97, rfl, hr97, hg97⟩ := hO97.read
                try go_simp
                refine hK.out _ _ (Or.inr ⟨(hE97).cell hc1y nb, (hE97).cell hg0y nb, (hE97).cell hg1y nb⟩) ?_
                clear hK K
                try simp only [Act.put, List.setIfInBounds_toArray, List.set_cons_zero, List.set_cons_succ]
                have zc97 := hE97.cell hc1y nb
                have zf97 := frz0 (off := 1) (hE97.keep hby1 nb)
                refine wpAnyV_one (i := 19) (by kernel_rfl) (by kernel_rfl) (fun o ho K hK => ?_)
                conv at ho => rhs; whnf
                subst ho
                go_simp
                refine hK.out _ _ (Or.inr ⟨(hE97).cell hc1y nb, (hE97).cell hg0y nb, (hE97).cell hg1y nb⟩) ?_
                clear hK K
                try simp only [Act.put, List.setIfInBounds_toArray, List.set_cons_zero, List.set_cons_succ]
                refine wpAnyV_one (i := 20) (by kernel_rfl) (by kernel_rfl) (fun o ho K hK => ?_)
                conv at ho => rhs; whnf
                subst ho
                go_simp
                refine hK.out _ _ (Or.inr ⟨(hE97).cell hc1y nb, (hE97).cell hg0y nb, (hE97).cell hg1y nb⟩) ?_
                clear hK K
                try simp only [Act.put, List.setIfInBounds_toArray, List.set_cons_zero, List.set_cons_succ]
                refine wpAnyV_one (i := 21) (by kernel_rfl) (by kernel_rfl) (fun o ho K hK => ?_)
                conv at ho => rhs; whnf
                subst ho
                go_simp
                refine hK.out _ _ (Or.inl rfl) ?_
                clear hK K
                try simp only [Act.put, List.setIfInBounds_toArray, List.set_cons_zero, List.set_cons_succ]
                refine wpAnyV_done (by kernel_rfl) ?_ _
                clear zc97 zf97
                go_wp2_with fail
                go_ret
                exact refAddW_end hxy hby1 hbw hgt (by rw [← hl97'.out]; exact refIns_ok k hsrt.out hlow.out hstop.out) hok.out hO97 hE97 hq97 hg97
          · have t0 : decide (k < L.length) = false := by simp [hlt]
            have hstop := Lib.hid (show ∀ q (h : q < L.length), k ≤ q → tlt ((due : Int), id) L[q] from fun q h hq => by omega)
            obtain rfl : k = L.length := by omega
            clear hlt
            go_wp2_with fail
            go_quiet (fail)
            refine gen_then ?_
            intro wy hxrw
            have hxy := hxw.trans hxrw (fun _ _ e => e)
            have hby1 := hxrw.keep j1 nb
            have hLy := j2.keep hxrw nb1
            have hc1y := hxrw.cell c1 nb
            have hg0y := hxrw.cell g0 nb
            have hg1y := hxrw.cell g1 nb
            clear g0 g1 c1 hc1
            go_wp2_with fail
            rcases h5 with ⟨rfl, rfl⟩ | ⟨b2, o2, rfl⟩
            · obtain rfl : L = [] := List.eq_nil_of_length_eq_zero (by omega)
              have hki : (0 : Int) ≤ (0 : Int) := by omega
              have hkn : 0 ≤ 0 := by omega
              have hct : True := trivial
              have q1' := Lib.hid (show (([] : List Tm).length + (([] : List Tm).take 0).length) * 16 ≤ 140737488355328 by rw [List.length_take, List.length_nil]; omega)
              have q2 : ([] : List Tm).length + (([] : List Tm).take 0).length ≤ maxLen := by rw [List.length_take, List.length_nil]; unfold maxLen; omega
              have q3' := Lib.hid (show 0 = (([] : List Tm).take 0).length by first | (rw [List.length_take]; omega) | simp)
              have q4 : (([] ++ ([] : List Tm).take 0).length + [(((due : Int), id) : Tm)].length) * 16 ≤ 140737488355328 := by rw [List.length_append, List.length_nil, List.length_take, List.length_singleton]; omega
              have q5 : ([] ++ ([] : List Tm).take 0).length + [(((due : Int), id) : Tm)].length ≤ maxLen := by rw [List.length_append, List.length_nil, List.length_take, List.length_singleton]; unfold maxLen; omega
              have q6 : (([] ++ ([] : List Tm).take 0 ++ [(((due : Int), id) : Tm)]).length + (([] : List Tm).drop 0).length) * 16 ≤ 140737488355328 := by rw [List.length_append, List.length_append, List.length_nil, List.length_take, List.length_singleton, List.length_drop]; omega
              have q7 : ([] ++ ([] : List Tm).take 0 ++ [(((due : Int), id) : Tm)]).length + (([] : List Tm).drop 0).length ≤ maxLen := by rw [List.length_append, List.length_append, List.length_nil, List.length_take, List.length_singleton, List.length_drop]; unfold maxLen; omega
              have q8' := Lib.hid (show 0 = (([] : List Tm).drop 0).length by first | (rw [List.length_drop]; done) | (rw [List.length_drop]; omega) | simp)
              have hdn := Lib.hid (show 0 = 0 → ([] : List Tm).drop 0 = [] from fun e => List.drop_of_length_le (Nat.le_of_eq e.symm))
              have hcm : 0 ≤ maxLen := by unfold maxLen; omega
              refine wp_region_V 21 (fun w' => w'.cell? ⟨b, 1, none⟩ = some (.slice none 0 0) ∧ w'.cell? ⟨tb, 0, none⟩ = some (.int .u64 due) ∧ w'.cell? ⟨tb, 1, none⟩ = some (.int .i64 id)) (by kernel_rfl) ?_
              try simp only [Act.put, List.setIfInBounds_toArray, List.set_cons_zero, List.set_cons_succ]
              refine wpAnyV_take (i := 0) (by kernel_rfl) (by kernel_rfl) (by kernel_rfl) (by kernel_rfl) (by kernel_rfl) ⟨hc1y, hg0y, hg1y⟩ (fun o ho => ?_)
              conv at ho => rhs; whnf
              subst ho
              refine ⟨?_, fun _ _ _ h => h, Or.inl ⟨by rfl, ?_⟩, ?_⟩
              rotate_left
              · intro w hSw
                try dsimp only at hSw
                try obtain ⟨s1, s2, s3⟩ := hSw
                first | (go_simp; done) | (go_simp; with_reducible rfl)
              try simp only [Act.put, List.setIfInBounds_toArray, List.set_cons_zero, List.set_cons_succ]
              refine wpAnyV_take (i := 2) (by kernel_rfl) (by kernel_rfl) (by kernel_rfl) (by kernel_rfl) (by kernel_rfl) ⟨hc1y, hg0y, hg1y⟩ (fun o ho => ?_)
              conv at ho => rhs; whnf
              subst ho
              refine ⟨?_, fun _ _ _ h => h, Or.inl ⟨by rfl, ?_⟩, ?_⟩
              rotate_left
              · intro w hSw
                try dsimp only at hSw
                try obtain ⟨s1, s2, s3⟩ := hSw
                first | (go_simp; done) | (go_simp; with_reducible rfl)
              try simp only [Act.put, List.setIfInBounds_toArray, List.set_cons_zero, List.set_cons_succ]
              refine wpAnyV_take (i := 3) (by kernel_rfl) (by kernel_rfl) (by kernel_rfl) (by kernel_rfl) (by kernel_rfl) ⟨hc1y, hg0y, hg1y⟩ (fun o ho => ?_)
              conv at ho => rhs; whnf
              subst ho
              refine ⟨?_, fun _ _ _ h => h, Or.inl ⟨by rfl, ?_⟩, ?_⟩
              rotate_left
              · intro w hSw
                try dsimp only at hSw
                try obtain ⟨s1, s2, s3⟩ := hSw
                first | (go_simp; done) | (go_simp; with_reducible rfl)
              try simp only [Act.put, List.setIfInBounds_toArray, List.set_cons_zero, List.set_cons_succ]
              refine wpAnyV_take (i := 4) (by kernel_rfl) (by kernel_rfl) (by kernel_rfl) (by kernel_rfl) (by kernel_rfl) ⟨hc1y, hg0y, hg1y⟩ (fun o ho => ?_)
              conv at ho => rhs; whnf
              subst ho
              refine ⟨?_, fun _ _ _ h => h, Or.inl ⟨by rfl, ?_⟩, ?_⟩
              rotate_left
              · intro w hSw
                try dsimp only at hSw
                try obtain ⟨s1, s2, s3⟩ := hSw
                first | (go_simp; done) | (go_simp; with_reducible rfl)
              try simp only [Act.put, List.setIfInBounds_toArray, List.set_cons_zero, List.set_cons_succ]
              refine wpAnyV_take (i := 5) (by kernel_rfl) (by kernel_rfl) (by kernel_rfl) (by kernel_rfl) (by kernel_rfl) ⟨hc1y, hg0y, hg1y⟩ (fun o ho => ?_)
              conv at ho => rhs; whnf
              subst ho
              refine ⟨?_, fun _ _ _ h => h, Or.inl ⟨by rfl, ?_⟩, ?_⟩
              rotate_left
              · intro w hSw
                try dsimp only at hSw
                try obtain ⟨s1, s2, s3⟩ := hSw
                first | (go_simp; done) | (go_simp; with_reducible rfl)
              try simp only [Act.put, List.setIfInBounds_toArray, List.set_cons_zero, List.set_cons_succ]
              refine wpAnyV_take (i := 6) (by kernel_rfl) (by kernel_rfl) (by kernel_rfl) (by kernel_rfl) (by kernel_rfl) ⟨hc1y, hg0y, hg1y⟩ (fun o ho => ?_)
              conv at ho => rhs; whnf
              subst ho
              refine ⟨?_, fun _ _ _ h => h, Or.inl ⟨by rfl, ?_⟩, ?_⟩
              rotate_left
              · intro w hSw
                try dsimp only at hSw
                try obtain ⟨s1, s2, s3⟩ := hSw
                first | (go_simp; done) | (go_simp; with_reducible rfl)
              try simp only [Act.put, List.setIfInBounds_toArray, List.set_cons_zero, List.set_cons_succ]
              refine wpAnyV_take (i := 7) (by kernel_rfl) (by kernel_rfl) (by kernel_rfl) (by kernel_rfl) (by kernel_rfl) ⟨hc1y, hg0y, hg1y⟩ (fun o ho => ?_)
              conv at ho => rhs; whnf
              subst ho
              refine ⟨?_, fun _ _ _ h => h, Or.inl ⟨by rfl, ?_⟩, ?_⟩
              rotate_left
              · intro w hSw
                try dsimp only at hSw
                try obtain ⟨s1, s2, s3⟩ := hSw
                first | (go_simp; done) | (go_simp; with_reducible rfl)
              try simp only [Act.put, List.setIfInBounds_toArray, List.set_cons_zero, List.set_cons_succ]
              refine wpAnyV_take (i := 9) (by kernel_rfl) (by kernel_rfl) (by kernel_rfl) (by kernel_rfl) (by kernel_rfl) ⟨hc1y, hg0y, hg1y⟩ (fun o ho => ?_)
              conv at ho => rhs; whnf
              subst ho
              refine ⟨?_, fun _ _ _ h => h, Or.inl ⟨by rfl, ?_⟩, ?_⟩
              rotate_left
              · intro w hSw
                try dsimp only at hSw
                try obtain ⟨s1, s2, s3⟩ := hSw
                first | (go_simp; done) | (go_simp; with_reducible rfl)
              try simp only [Act.put, List.setIfInBounds_toArray, List.set_cons_zero, List.set_cons_succ]
              refine wpAnyV_take (i := 12) (by kernel_rfl) (by kernel_rfl) (by kernel_rfl) (by kernel_rfl) (by kernel_rfl) ⟨hc1y, hg0y, hg1y⟩ (fun o ho => ?_)
              conv at ho => rhs; whnf
              subst ho
              refine ⟨?_, fun _ _ _ h => h, Or.inl ⟨by rfl, ?_⟩, ?_⟩
              rotate_left
              · intro w hSw
                try dsimp only at hSw
                try obtain ⟨s1, s2, s3⟩ := hSw
                first | (go_simp; done) | (go_simp; with_reducible rfl)
              try simp only [Act.put, List.setIfInBounds_toArray, List.set_cons_zero, List.set_cons_succ]
              refine wpAnyV_take (i := 13) (by kernel_rfl) (by kernel_rfl) (by kernel_rfl) (by kernel_rfl) (by kernel_rfl) ⟨hc1y, hg0y, hg1y⟩ (fun o ho => ?_)
              conv at ho => rhs; whnf
              subst ho
              refine ⟨?_, fun _ _ _ h => h, Or.inl ⟨by rfl, ?_⟩, ?_⟩
              rotate_left
              · intro w hSw
                try dsimp only at hSw
                try obtain ⟨s1, s2, s3⟩ := hSw
                first | (go_simp; done) | (go_simp; with_reducible rfl)
              try simp only [Act.put, List.setIfInBounds_toArray, List.set_cons_zero, List.set_cons_succ]
              refine wpAnyV_take (i := 14) (by kernel_rfl) (by kernel_rfl) (by kernel_rfl) (by kernel_rfl) (by kernel_rfl) ⟨hc1y, hg0y, hg1y⟩ (fun o ho => ?_)
              conv at ho => rhs; whnf
              subst ho
              refine ⟨?_, fun _ _ _ h => h, Or.inl ⟨by rfl, ?_⟩, ?_⟩
              rotate_left
              · intro w hSw
                try dsimp only at hSw
                try obtain ⟨s1, s2, s3⟩ := hSw
                first | (go_simp; done) | (go_simp; with_reducible rfl)
              try simp only [Act.put, List.setIfInBounds_toArray, List.set_cons_zero, List.set_cons_succ]
              refine wpAnyV_take (i := 15) (by kernel_rfl) (by kernel_rfl) (by kernel_rfl) (by kernel_rfl) (by kernel_rfl) ⟨hc1y, hg0y, hg1y⟩ (fun o ho => ?_)
              conv at ho => rhs; whnf
              subst ho
              refine ⟨?_, fun _ _ _ h => h, Or.inl ⟨by rfl, ?_⟩, ?_⟩
              rotate_left
              · intro w hSw
                try dsimp only at hSw
                try obtain ⟨s1, s2, s3⟩ := hSw
                first | (go_simp; done) | (go_simp; with_reducible rfl)
              try simp only [Act.put, List.setIfInBounds_toArray, List.set_cons_zero, List.set_cons_succ]
              refine wpAnyV_take (i := 16) (by kernel_rfl) (by kernel_rfl) (by kernel_rfl) (by kernel_rfl) (by kernel_rfl) ⟨hc1y, hg0y, hg1y⟩ (fun o ho => ?_)
              conv at ho => rhs; whnf
              subst ho
              refine ⟨?_, fun _ _ _ h => h, Or.inl ⟨by rfl, ?_⟩, ?_⟩
              rotate_left
              · intro w hSw
                try dsimp only at hSw
                try obtain ⟨s1, s2, s3⟩ := hSw
                first | (go_simp; done) | (go_simp; with_reducible rfl)
              try simp only [Act.put, List.setIfInBounds_toArray, List.set_cons_zero, List.set_cons_succ]
              refine wpAnyV_take (i := 17) (by kernel_rfl) (by kernel_rfl) (by kernel_rfl) (by kernel_rfl) (by kernel_rfl) ⟨hc1y, hg0y, hg1y⟩ (fun o ho => ?_)
              conv at ho => rhs; whnf
              subst ho
              refine ⟨?_, fun _ _ _ h => h, Or.inl ⟨by rfl, ?_⟩, ?_⟩
              rotate_left
              · intro w hSw
                try dsimp only at hSw
                try obtain ⟨s1, s2, s3⟩ := hSw
                first | (go_simp; done) | (go_simp; with_reducible rfl)
              try simp only [Act.put, List.setIfInBounds_toArray, List.set_cons_zero, List.set_cons_succ]
              refine wpAnyV_two (i := 1) (j := 10) (by kernel_rfl) (by kernel_rfl) (by kernel_rfl) (fun o ho K hK => ?_) (fun o ho K hK => ?_)
              · conv at ho => rhs; whnf
                subst ho
                go_simp
                refine hK.out _ _ (Or.inr ⟨((Ext.refl NoB _).alloc _).cell hc1y nb, ((Ext.refl NoB _).alloc _).cell hg0y nb, ((Ext.refl NoB _).alloc _).cell hg1y nb⟩) ?_
                clear hK K
                try simp only [Act.put, List.setIfInBounds_toArray, List.set_cons_zero, List.set_cons_succ]
                refine wpAnyV_two (i := 8) (j := 10) (by kernel_rfl) (by kernel_rfl) (by kernel_rfl) (fun o ho K hK => ?_) (fun o ho K hK => ?_)
                · conv at ho => rhs; whnf
                  subst ho
                  refine step_appendW wy 28 16 elem_tm timerE_len timerE_one (some (wy.heap.size)) (.slice (some ⟨wy.heap.size, 0, none⟩) 0 0) ([]) (([] : List Tm).take 0) (.tmp 50) (.tmp 56) (none) (0) (b') (o) (0) q1'.out q2 q3'.out (ne_own (by omega)) rfl rfl rfl rfl ((Ext.refl NoB wy).drew.alloc _) (SlO.made (b := wy.heap.size) (xs := ([] : List Tm)) (cs := #[]) (alloc_at wy.drew _) rfl timerE_len (Nat.zero_le _)) ((SlR.keep hLy ((Ext.refl NoB wy).drew.alloc _) nb1).take timerE_len (Nat.le_refl _)) (fun v85 w85 g85 hO85 hx85 hE85 hq85 => ?_)
                  try go_simp
                  refine hK.out _ _ (Or.inr ⟨(hE85).cell hc1y nb, (hE85).cell hg0y nb, (hE85).cell hg1y nb⟩) ?_
                  clear hK K
                  try simp only [Act.put, List.setIfInBounds_toArray, List.set_cons_zero, List.set_cons_succ]
                  refine wpAnyV_one (i := 10) (by kernel_rfl) (by kernel_rfl) (fun o ho K hK => ?_)
                  conv at ho => rhs; whnf
                  subst ho
                  go_simp
                  refine hK.out _ _ (Or.inr ⟨Ext.cell ((Ext.refl NoB _).alloc _) (hE85.cell hc1y nb) nb, Ext.cell ((Ext.refl NoB _).alloc _) (hE85.cell hg0y nb) nb, Ext.cell ((Ext.refl NoB _).alloc _) (hE85.cell hg1y nb) nb⟩) ?_
                  clear hK K
                  try simp only [Act.put, List.setIfInBounds_toArray, List.set_cons_zero, List.set_cons_succ]
                  refine wpAnyV_one (i := 11) (by kernel_rfl) (by kernel_rfl) (fun o ho K hK => ?_)
                  conv at ho => rhs; whnf
                  subst ho
                  refine step_appendW wy 28 16 elem_tm timerE_len timerE_one (g85) (v85) ([] ++ ([] : List Tm).take 0) ([(((due : Int), id) : Tm)]) (.tmp 57) (.tmp 59) (some ⟨w85.heap.size, 0, none⟩) (1) (w85.heap.size) (0) (1) q4 q5 rfl hq85 rfl rfl rfl rfl (hE85.alloc _) (hO85.keep (F := NoB) ((Ext.refl NoB w85).alloc _) (fun _ _ => nb)) (SlR.one' (E := 33) (fr := (0, 0)) (cs := #[.int .u64 due, .int .i64 id]) (alloc_at w85 _) rfl) (fun v90 w90 g90 hO90 hx90 hE90 hq90 => ?_)
                  try go_simp
                  refine hK.out _ _ (Or.inr ⟨(hE90).cell hc1y nb, (hE90).cell hg0y nb, (hE90).cell hg1y nb⟩) ?_
                  clear hK K
                  try simp only [Act.put, List.setIfInBounds_toArray, List.set_cons_zero, List.set_cons_succ]
                  refine wpAnyV_one (i := 18) (by kernel_rfl) (by kernel_rfl) (fun o ho K hK => ?_)
                  conv at ho => rhs; whnf
                  subst ho
                  refine step_appendW wy 28 16 elem_tm timerE_len timerE_one (g90) (v90) ([] ++ ([] : List Tm).take 0 ++ [(((due : Int), id) : Tm)]) (([] : List Tm).drop 0) (.tmp 60) (.tmp 66) (none) (0) (b') (0) (0) q6 q7 q8'.out hq90 rfl rfl rfl rfl (hE90) (hO90) (slR_nil (hdn.out rfl) hcm) (fun v97 w97 g97 hO97 hx97 hE97 hq97 => ?_)
                  generalize hl97 : [] ++ ([] : List Tm).take 0 ++ [(((due : Int), id) : Tm)] ++ ([] : List Tm).drop 0 = L97 at hO97
                  have hl97' := Lib.hid hl97
                  clear hl97
                  obtain ⟨A97, c97, b97, o97, rfl, hr97, hg97⟩ := hO97.read
                  try go_simp
                  refine hK.out _ _ (Or.inr ⟨(hE97).cell hc1y nb, (hE97).cell hg0y nb, (hE97).cell hg1y nb⟩) ?_
                  clear hK K
                  try simp only [Act.put, List.setIfInBounds_toArray, List.set_cons_zero, List.set_cons_succ]
                  have zc97 := hE97.cell hc1y nb
                  have zf97 := frz0 (off := 1) (hE97.keep hby1 nb)
                  refine wpAnyV_one (i := 19) (by kernel_rfl) (by kernel_rfl) (fun o ho K hK => ?_)
                  conv at ho => rhs; whnf
                  subst ho
                  go_simp
                  refine hK.out _ _ (Or.inr ⟨(hE97).cell hc1y nb, (hE97).cell hg0y nb, (hE97).cell hg1y nb⟩) ?_
                  clear hK K
                  try simp only [Act.put, List.setIfInBounds_toArray, List.set_cons_zero, List.set_cons_succ]
                  refine wpAnyV_one (i := 20) (by kernel_rfl) (by kernel_rfl) (fun o ho K hK => ?_)
                  conv at ho => rhs; whnf
                  subst ho
                  go_simp
                  refine hK.out _ _ (Or.inr ⟨(hE97).cell hc1y nb, (hE97).cell hg0y nb, (hE97).cell hg1y nb⟩) ?_
                  clear hK K
                  try simp only [Act.put, List.setIfInBounds_toArray, List.set_cons_zero, List.set_cons_succ]
                  refine wpAnyV_one (i := 21) (by kernel_rfl) (by kernel_rfl) (fun o ho K hK => ?_)
                  conv at ho => rhs; whnf
                  subst ho
                  go_simp
                  refine hK.out _ _ (Or.inl rfl) ?_
                  clear hK K
                  try simp only [Act.put, List.setIfInBounds_toArray, List.set_cons_zero, List.set_cons_succ]
                  refine wpAnyV_done (by kernel_rfl) ?_ _
                  clear zc97 zf97
                  go_wp2_with fail
                  go_ret
                  exact refAddW_end hxy hby1 hbw hgt (by rw [← hl97'.out]; exact refIns_ok 0 hsrt.out hlow.out hstop.out) hok.out hO97 hE97 hq97 hg97
                · conv at ho => rhs; whnf
                  subst ho
                  go_simp
                  refine hK.out _ _ (Or.inr ⟨(((Ext.refl NoB _).alloc _).alloc _).cell hc1y nb, (((Ext.refl NoB _).alloc _).alloc _).cell hg0y nb, (((Ext.refl NoB _).alloc _).alloc _).cell hg1y nb⟩) ?_
                  clear hK K
                  try simp only [Act.put, List.setIfInBounds_toArray, List.set_cons_zero, List.set_cons_succ]
                  refine wpAnyV_one (i := 8) (by kernel_rfl) (by kernel_rfl) (fun o ho K hK => ?_)
                  conv at ho => rhs; whnf
                  subst ho
                  refine step_appendW wy 28 16 elem_tm timerE_len timerE_one (some (wy.heap.size)) (.slice (some ⟨wy.heap.size, 0, none⟩) 0 0) ([]) (([] : List Tm).take 0) (.tmp 50) (.tmp 56) (none) (0) (b') (o) (0) q1'.out q2 q3'.out (ne_own (by omega)) rfl rfl rfl rfl (((Ext.refl NoB wy).drew.alloc _).alloc _) (SlO.made (b := wy.heap.size) (xs := ([] : List Tm)) (cs := #[]) (((Ext.refl NoB _).alloc _).keep (alloc_at wy.drew _) nb) rfl timerE_len (Nat.zero_le _)) ((SlR.keep hLy (((Ext.refl NoB wy).drew.alloc _).alloc _) nb1).take timerE_len (Nat.le_refl _)) (fun v85 w85 g85 hO85 hx85 hE85 hq85 => ?_)
                  try go_simp
                  refine hK.out _ _ (Or.inr ⟨(hE85).cell hc1y nb, (hE85).cell hg0y nb, (hE85).cell hg1y nb⟩) ?_
                  clear hK K
                  try simp only [Act.put, List.setIfInBounds_toArray, List.set_cons_zero, List.set_cons_succ]
                  refine wpAnyV_one (i := 11) (by kernel_rfl) (by kernel_rfl) (fun o ho K hK => ?_)
                  conv at ho => rhs; whnf
                  subst ho
                  refine step_appendW wy 28 16 elem_tm timerE_len timerE_one (g85) (v85) ([] ++ ([] : List Tm).take 0) ([(((due : Int), id) : Tm)]) (.tmp 57) (.tmp 59) (some ⟨wy.heap.size + 1, 0, none⟩) (1) (wy.heap.size + 1) (0) (1) q4 q5 rfl hq85 rfl rfl rfl rfl (hE85) (hO85) (SlR.one' (E := 33) (fr := (0, 0)) (cs := #[.int .u64 due, .int .i64 id]) (hx85.keep (alloc_at' _ _ _ (by simp)) (some_ne (by omega))) rfl) (fun v90 w90 g90 hO90 hx90 hE90 hq90 => ?_)
                  try go_simp
                  refine hK.out _ _ (Or.inr ⟨(hE90).cell hc1y nb, (hE90).cell hg0y nb, (hE90).cell hg1y nb⟩) ?_
                  clear hK K
                  try simp only [Act.put, List.setIfInBounds_toArray, List.set_cons_zero, List.set_cons_succ]
                  refine wpAnyV_one (i := 18) (by kernel_rfl) (by kernel_rfl) (fun o ho K hK => ?_)
                  conv at ho => rhs; whnf
                  subst ho
                  refine step_appendW wy 28 16 elem_tm timerE_len timerE_one (g90) (v90) ([] ++ ([] : List Tm).take 0 ++ [(((due : Int), id) : Tm)]) (([] : List Tm).drop 0) (.tmp 60) (.tmp 66) (none) (0) (b') (0) (0) q6 q7 q8'.out hq90 rfl rfl rfl rfl (hE90) (hO90) (slR_nil (hdn.out rfl) hcm) (fun v97 w97 g97 hO97 hx97 hE97 hq97 => ?_)
                  generalize hl97 : [] ++ ([] : List Tm).take 0 ++ [(((due : Int), id) : Tm)] ++ ([] : List Tm).drop 0 = L97 at hO97
                  have hl97' := Lib.hid hl97
                  clear hl97
                  obtain ⟨A97, c97, b97, o97, rfl, hr97, hg97⟩ := hO97.read
                  try go_simp
                  refine hK.out _ _ (Or.inr ⟨(hE97).cell hc1y nb, (hE97).cell hg0y nb, (hE97).cell hg1y nb⟩) ?_
                  clear hK K
                  try simp only [Act.put, List.setIfInBounds_toArray, List.set_cons_zero, List.set_cons_succ]
                  have zc97 := hE97.cell hc1y nb
                  have zf97 := frz0 (off := 1) (hE97.keep hby1 nb)
                  refine wpAnyV_one (i := 19) (by kernel_rfl) (by kernel_rfl) (fun o ho K hK => ?_)
                  conv at ho => rhs; whnf
                  subst ho
                  go_simp
                  refine hK.out _ _ (Or.inr ⟨(hE97).cell hc1y nb, (hE97).cell hg0y nb, (hE97).cell hg1y nb⟩) ?_
                  clear hK K
                  try simp only [Act.put, List.setIfInBounds_toArray, List.set_cons_zero, List.set_cons_succ]
                  refine wpAnyV_one (i := 20) (by kernel_rfl) (by kernel_rfl) (fun o ho K hK => ?_)
                  conv at ho => rhs; whnf
                  subst ho
                  go_simp
                  refine hK.out _ _ (Or.inr ⟨(hE97).cell hc1y nb, (hE97).cell hg0y nb, (hE97).cell hg1y nb⟩) ?_
                  clear hK K
                  try simp only [Act.put, List.setIfInBounds_toArray, List.set_cons_zero, List.set_cons_succ]
                  refine wpAnyV_one (i := 21) (by kernel_rfl) (by kernel_rfl) (fun o ho K hK => ?_)
                  conv at ho => rhs; whnf
                  subst ho
                  go_simp
                  refine hK.out _ _ (Or.inl rfl) ?_
                  clear hK K
                  try simp only [Act.put, List.setIfInBounds_toArray, List.set_cons_zero, List.set_cons_succ]
                  refine wpAnyV_done (by kernel_rfl) ?_ _
                  clear zc97 zf97
                  go_wp2_with fail
                  go_ret
                  exact refAddW_end hxy hby1 hbw hgt (by rw [← hl97'.out]; exact refIns_ok 0 hsrt.out hlow.out hstop.out) hok.out hO97 hE97 hq97 hg97
              · conv at ho => rhs; whnf
                subst ho
                go_simp
                refine hK.out _ _ (Or.inr ⟨((Ext.refl NoB _).alloc _).cell hc1y nb, ((Ext.refl NoB _).alloc _).cell hg0y nb, ((Ext.refl NoB _).alloc _).cell hg1y nb⟩) ?_
                clear hK K
                try simp only [Act.put, List.setIfInBounds_toArray, List.set_cons_zero, List.set_cons_succ]
                refine wpAnyV_one (i := 1) (by kernel_rfl) (by kernel_rfl) (fun o ho K hK => ?_)
                conv at ho => rhs; whnf
                subst ho
                go_simp
                refine hK.out _ _ (Or.inr ⟨(((Ext.refl NoB _).alloc _).alloc _).cell hc1y nb, (((Ext.refl NoB _).alloc _).alloc _).cell hg0y nb, (((Ext.refl NoB _).alloc _).alloc _).cell hg1y nb⟩) ?_
                clear hK K
                try simp only [Act.put, List.setIfInBounds_toArray, List.set_cons_zero, List.set_cons_succ]
                refine wpAnyV_one (i := 8) (by kernel_rfl) (by kernel_rfl) (fun o ho K hK => ?_)
                conv at ho => rhs; whnf
                subst ho
                refine step_appendW wy 28 16 elem_tm timerE_len timerE_one (some (wy.heap.size + 1)) (.slice (some ⟨wy.heap.size + 1, 0, none⟩) 0 0) ([]) (([] : List Tm).take 0) (.tmp 50) (.tmp 56) (none) (0) (b') (o) (0) q1'.out q2 q3'.out (ne_own (by omega)) rfl rfl rfl rfl (((Ext.refl NoB wy).drew.alloc _).alloc _) (SlO.made (b := wy.heap.size + 1) (xs := ([] : List Tm)) (cs := #[]) (alloc_at' _ _ _ (by simp)) rfl timerE_len (Nat.zero_le _)) ((SlR.keep hLy (((Ext.refl NoB wy).drew.alloc _).alloc _) nb1).take timerE_len (Nat.le_refl _)) (fun v85 w85 g85 hO85 hx85 hE85 hq85 => ?_)
                try go_simp
                refine hK.out _ _ (Or.inr ⟨(hE85).cell hc1y nb, (hE85).cell hg0y nb, (hE85).cell hg1y nb⟩) ?_
                clear hK K
                try simp only [Act.put, List.setIfInBounds_toArray, List.set_cons_zero, List.set_cons_succ]
                refine wpAnyV_one (i := 11) (by kernel_rfl) (by kernel_rfl) (fun o ho K hK => ?_)
                conv at ho => rhs; whnf
                subst ho
                refine step_appendW wy 28 16 elem_tm timerE_len timerE_one (g85) (v85) ([] ++ ([] : List Tm).take 0) ([(((due : Int), id) : Tm)]) (.tmp 57) (.tmp 59) (some ⟨wy.heap.size, 0, none⟩) (1) (wy.heap.size) (0) (1) q4 q5 rfl hq85 rfl rfl rfl rfl (hE85) (hO85) (SlR.one' (E := 33) (fr := (0, 0)) (cs := #[.int .u64 due, .int .i64 id]) (hx85.keep (((Ext.refl NoB _).alloc _).keep (alloc_at wy.drew _) nb) (some_ne (by omega))) rfl) (fun v90 w90 g90 hO90 hx90 hE90 hq90 => ?_)
                try go_simp
                refine hK.out _ _ (Or.inr ⟨(hE90).cell hc1y nb, (hE90).cell hg0y nb, (hE90).cell hg1y nb⟩) ?_
                clear hK K
                try simp only [Act.put, List.setIfInBounds_toArray, List.set_cons_zero, List.set_cons_succ]
                refine wpAnyV_one (i := 18) (by kernel_rfl) (by kernel_rfl) (fun o ho K hK => ?_)
                conv at ho => rhs; whnf
                subst ho
                refine step_appendW wy 28 16 elem_tm timerE_len timerE_one (g90) (v90) ([] ++ ([] : List Tm).take 0 ++ [(((due : Int), id) : Tm)]) (([] : List Tm).drop 0) (.tmp 60) (.tmp 66) (none) (0) (b') (0) (0) q6 q7 q8'.out hq90 rfl rfl rfl rfl (hE90) (hO90) (slR_nil (hdn.out rfl) hcm) (fun v97 w97 g97 hO97 hx97 hE97 hq97 => ?_)
                generalize hl97 : [] ++ ([] : List Tm).take 0 ++ [(((due : Int), id) : Tm)] ++ ([] : List Tm).drop 0 = L97 at hO97
                have hl97' := Lib.hid hl97
                clear hl97
                obtain ⟨A97, c97, b97, o97, rfl, hr97, hg97⟩ := hO97.read
                try go_simp
                refine hK.out _ _ (Or.inr ⟨(hE97).cell hc1y nb, (hE97).cell hg0y nb, (hE97).cell hg1y nb⟩) ?_
                clear hK K
                try simp only [Act.put, List.setIfInBounds_toArray, List.set_cons_zero, List.set_cons_succ]
                have zc97 := hE97.cell hc1y nb
                have zf97 := frz0 (off := 1) (hE97.keep hby1 nb)
                refine wpAnyV_one (i := 19) (by kernel_rfl) (by kernel_rfl) (fun o ho K hK => ?_)
                conv at ho => rhs; whnf
                subst ho
                go_simp
                refine hK.out _ _ (Or.inr ⟨(hE97).cell hc1y nb, (hE97).cell hg0y nb, (hE97).cell hg1y nb⟩) ?_
                clear hK K
                try simp only [Act.put, List.setIfInBounds_toArray, List.set_cons_zero, List.set_cons_succ]
                refine wpAnyV_one (i := 20) (by kernel_rfl) (by kernel_rfl) (fun o ho K hK => ?_)
                conv at ho => rhs; whnf
                subst ho
                go_simp
                refine hK.out _ _ (Or.inr ⟨(hE97).cell hc1y nb, (hE97).cell hg0y nb, (hE97).cell hg1y nb⟩) ?_
                clear hK K
                try simp only [Act.put, List.setIfInBounds_toArray, List.set_cons_zero, List.set_cons_succ]
                refine wpAnyV_one (i := 21) (by kernel_rfl) (by kernel_rfl) (fun o ho K hK => ?_)
                conv at ho => rhs; whnf
                subst ho
                go_simp
                refine hK.out _ _ (Or.inl rfl) ?_
                clear hK K
                try simp only [Act.put, List.setIfInBounds_toArray, List.set_cons_zero, List.set_cons_succ]
                refine wpAnyV_done (by kernel_rfl) ?_ _
                clear zc97 zf97
                go_wp2_with fail
                go_ret
                exact refAddW_end hxy hby1 hbw hgt (by rw [← hl97'.out]; exact refIns_ok 0 hsrt.out hlow.out hstop.out) hok.out hO97 hE97 hq97 hg97
            · by_cases hcc : c = L.length
              · subst hcc
                have hki : (L.length : Int) ≤ (L.length : Int) := by omega
                have hkn : L.length ≤ L.length := by omega
                have hct : L.length = L.length := rfl
                have q1' := Lib.hid (show (([] : List Tm).length + (L.take L.length).length) * 16 ≤ 140737488355328 by rw [List.length_take, List.length_nil]; omega)
                have q2 : ([] : List Tm).length + (L.take L.length).length ≤ maxLen := by rw [List.length_take, List.length_nil]; unfold maxLen; omega
                have q3' := Lib.hid (show L.length = (L.take L.length).length by first | (rw [List.length_take]; omega) | simp)
                have q4 : (([] ++ L.take L.length).length + [(((due : Int), id) : Tm)].length) * 16 ≤ 140737488355328 := by rw [List.length_append, List.length_nil, List.length_take, List.length_singleton]; omega
                have q5 : ([] ++ L.take L.length).length + [(((due : Int), id) : Tm)].length ≤ maxLen := by rw [List.length_append, List.length_nil, List.length_take, List.length_singleton]; unfold maxLen; omega
                have q6 : (([] ++ L.take L.length ++ [(((due : Int), id) : Tm)]).length + (L.drop L.length).length) * 16 ≤ 140737488355328 := by rw [List.length_append, List.length_append, List.length_nil, List.length_take, List.length_singleton, List.length_drop]; omega
                have q7 : ([] ++ L.take L.length ++ [(((due : Int), id) : Tm)]).length + (L.drop L.length).length ≤ maxLen := by rw [List.length_append, List.length_append, List.length_nil, List.length_take, List.length_singleton, List.length_drop]; unfold maxLen; omega
                have q8' := Lib.hid (show 0 = (L.drop L.length).length by first | (rw [List.length_drop]; done) | (rw [List.length_drop]; omega) | simp)
                have hdn := Lib.hid (show L.length = L.length → L.drop L.length = [] from fun e => List.drop_of_length_le (Nat.le_of_eq e.symm))
                have hcm : 0 ≤ maxLen := by unfold maxLen; omega
                refine wp_region_V 21 (fun w' => w'.cell? ⟨b, 1, none⟩ = some (.slice (some ⟨b2, o2, none⟩) L.length L.length) ∧ w'.cell? ⟨tb, 0, none⟩ = some (.int .u64 due) ∧ w'.cell? ⟨tb, 1, none⟩ = some (.int .i64 id)) (by kernel_rfl) ?_
                try simp only [Act.put, List.setIfInBounds_toArray, List.set_cons_zero, List.set_cons_succ]
                refine wpAnyV_take (i := 0) (by kernel_rfl) (by kernel_rfl) (by kernel_rfl) (by kernel_rfl) (by kernel_rfl) ⟨hc1y, hg0y, hg1y⟩ (fun o ho => ?_)
                conv at ho => rhs; whnf
                subst ho
                refine ⟨?_, fun _ _ _ h => h, Or.inl ⟨by rfl, ?_⟩, ?_⟩
                rotate_left
                · intro w hSw
                  try dsimp only at hSw
                  try obtain ⟨s1, s2, s3⟩ := hSw
                  first | (go_simp; done) | (go_simp; with_reducible rfl)
                try simp only [Act.put, List.setIfInBounds_toArray, List.set_cons_zero, List.set_cons_succ]
                refine wpAnyV_take (i := 2) (by kernel_rfl) (by kernel_rfl) (by kernel_rfl) (by kernel_rfl) (by kernel_rfl) ⟨hc1y, hg0y, hg1y⟩ (fun o ho => ?_)
                conv at ho => rhs; whnf
                subst ho
                refine ⟨?_, fun _ _ _ h => h, Or.inl ⟨by rfl, ?_⟩, ?_⟩
                rotate_left
                · intro w hSw
                  try dsimp only at hSw
                  try obtain ⟨s1, s2, s3⟩ := hSw
                  first | (go_simp; done) | (go_simp; with_reducible rfl)
                try simp only [Act.put, List.setIfInBounds_toArray, List.set_cons_zero, List.set_cons_succ]
                refine wpAnyV_take (i := 3) (by kernel_rfl) (by kernel_rfl) (by kernel_rfl) (by kernel_rfl) (by kernel_rfl) ⟨hc1y, hg0y, hg1y⟩ (fun o ho => ?_)
                conv at ho => rhs; whnf
                subst ho
                refine ⟨?_, fun _ _ _ h => h, Or.inl ⟨by rfl, ?_⟩, ?_⟩
                rotate_left
                · intro w hSw
                  try dsimp only at hSw
                  try obtain ⟨s1, s2, s3⟩ := hSw
                  first | (go_simp; done) | (go_simp; with_reducible rfl)
                try simp only [Act.put, List.setIfInBounds_toArray, List.set_cons_zero, List.set_cons_succ]
                refine wpAnyV_take (i := 4) (by kernel_rfl) (by kernel_rfl) (by kernel_rfl) (by kernel_rfl) (by kernel_rfl) ⟨hc1y, hg0y, hg1y⟩ (fun o ho => ?_)
                conv at ho => rhs; whnf
                subst ho
                refine ⟨?_, fun _ _ _ h => h, Or.inl ⟨by rfl, ?_⟩, ?_⟩
                rotate_left
                · intro w hSw
                  try dsimp only at hSw
                  try obtain ⟨s1, s2, s3⟩ := hSw
                  first | (go_simp; done) | (go_simp; with_reducible rfl)
                try simp only [Act.put, List.setIfInBounds_toArray, List.set_cons_zero, List.set_cons_succ]
                refine wpAnyV_take (i := 5) (by kernel_rfl) (by kernel_rfl) (by kernel_rfl) (by kernel_rfl) (by kernel_rfl) ⟨hc1y, hg0y, hg1y⟩ (fun o ho => ?_)
                conv at ho => rhs; whnf
                subst ho
                refine ⟨?_, fun _ _ _ h => h, Or.inl ⟨by rfl, ?_⟩, ?_⟩
                rotate_left
                · intro w hSw
                  try dsimp only at hSw
                  try obtain ⟨s1, s2, s3⟩ := hSw
                  first | (go_simp; done) | (go_simp; with_reducible rfl)
                try simp only [Act.put, List.setIfInBounds_toArray, List.set_cons_zero, List.set_cons_succ]
                refine wpAnyV_take (i := 6) (by kernel_rfl) (by kernel_rfl) (by kernel_rfl) (by kernel_rfl) (by kernel_rfl) ⟨hc1y, hg0y, hg1y⟩ (fun o ho => ?_)
                conv at ho => rhs; whnf
                subst ho
                refine ⟨?_, fun _ _ _ h => h, Or.inl ⟨by rfl, ?_⟩, ?_⟩
                rotate_left
                · intro w hSw
                  try dsimp only at hSw
                  try obtain ⟨s1, s2, s3⟩ := hSw
                  first | (go_simp; done) | (go_simp; with_reducible rfl)
                try simp only [Act.put, List.setIfInBounds_toArray, List.set_cons_zero, List.set_cons_succ]
                refine wpAnyV_take (i := 7) (by kernel_rfl) (by kernel_rfl) (by kernel_rfl) (by kernel_rfl) (by kernel_rfl) ⟨hc1y, hg0y, hg1y⟩ (fun o ho => ?_)
                conv at ho => rhs; whnf
                subst ho
                refine ⟨?_, fun _ _ _ h => h, Or.inl ⟨by rfl, ?_⟩, ?_⟩
                rotate_left
                · intro w hSw
                  try dsimp only at hSw
                  try obtain ⟨s1, s2, s3⟩ := hSw
                  first | (go_simp; done) | (go_simp; with_reducible rfl)
                try simp only [Act.put, List.setIfInBounds_toArray, List.set_cons_zero, List.set_cons_succ]
                refine wpAnyV_take (i := 9) (by kernel_rfl) (by kernel_rfl) (by kernel_rfl) (by kernel_rfl) (by kernel_rfl) ⟨hc1y, hg0y, hg1y⟩ (fun o ho => ?_)
                conv at ho => rhs; whnf
                subst ho
                refine ⟨?_, fun _ _ _ h => h, Or.inl ⟨by rfl, ?_⟩, ?_⟩
                rotate_left
                · intro w hSw
                  try dsimp only at hSw
                  try obtain ⟨s1, s2, s3⟩ := hSw
                  first | (go_simp; done) | (go_simp; with_reducible rfl)
                try simp only [Act.put, List.setIfInBounds_toArray, List.set_cons_zero, List.set_cons_succ]
                refine wpAnyV_take (i := 12) (by kernel_rfl) (by kernel_rfl) (by kernel_rfl) (by kernel_rfl) (by kernel_rfl) ⟨hc1y, hg0y, hg1y⟩ (fun o ho => ?_)
                conv at ho => rhs; whnf
                subst ho
                refine ⟨?_, fun _ _ _ h => h, Or.inl ⟨by rfl, ?_⟩, ?_⟩
                rotate_left
                · intro w hSw
                  try dsimp only at hSw
                  try obtain ⟨s1, s2, s3⟩ := hSw
                  first | (go_simp; done) | (go_simp; with_reducible rfl)
                try simp only [Act.put, List.setIfInBounds_toArray, List.set_cons_zero, List.set_cons_succ]
                refine wpAnyV_take (i := 13) (by kernel_rfl) (by kernel_rfl) (by kernel_rfl) (by kernel_rfl) (by kernel_rfl) ⟨hc1y, hg0y, hg1y⟩ (fun o ho => ?_)
                conv at ho => rhs; whnf
                subst ho
                refine ⟨?_, fun _ _ _ h => h, Or.inl ⟨by rfl, ?_⟩, ?_⟩
                rotate_left
                · intro w hSw
                  try dsimp only at hSw
                  try obtain ⟨s1, s2, s3⟩ := hSw
                  first | (go_simp; done) | (go_simp; with_reducible rfl)
                try simp only [Act.put, List.setIfInBounds_toArray, List.set_cons_zero, List.set_cons_succ]
                refine wpAnyV_take (i := 14) (by kernel_rfl) (by kernel_rfl) (by kernel_rfl) (by kernel_rfl) (by kernel_rfl) ⟨hc1y, hg0y, hg1y⟩ (fun o ho => ?_)
                conv at ho => rhs; whnf
                subst ho
                refine ⟨?_, fun _ _ _ h => h, Or.inl ⟨by rfl, ?_⟩, ?_⟩
                rotate_left
                · intro w hSw
                  try dsimp only at hSw
                  try obtain ⟨s1, s2, s3⟩ := hSw
                  first | (go_simp; done) | (go_simp; with_reducible rfl)
                try simp only [Act.put, List.setIfInBounds_toArray, List.set_cons_zero, List.set_cons_succ]
                refine wpAnyV_take (i := 15) (by kernel_rfl) (by kernel_rfl) (by kernel_rfl) (by kernel_rfl) (by kernel_rfl) ⟨hc1y, hg0y, hg1y⟩ (fun o ho => ?_)
                conv at ho => rhs; whnf
                subst ho
                refine ⟨?_, fun _ _ _ h => h, Or.inl ⟨by rfl, ?_⟩, ?_⟩
                rotate_left
                · intro w hSw
                  try dsimp only at hSw
                  try obtain ⟨s1, s2, s3⟩ := hSw
                  first | (go_simp; done) | (go_simp; with_reducible rfl)
                try simp only [Act.put, List.setIfInBounds_toArray, List.set_cons_zero, List.set_cons_succ]
                refine wpAnyV_take (i := 16) (by kernel_rfl) (by kernel_rfl) (by kernel_rfl) (by kernel_rfl) (by kernel_rfl) ⟨hc1y, hg0y, hg1y⟩ (fun o ho => ?_)
                conv at ho => rhs; whnf
                subst ho
                refine ⟨?_, fun _ _ _ h => h, Or.inl ⟨by rfl, ?_⟩, ?_⟩
                rotate_left
                · intro w hSw
                  try dsimp only at hSw
                  try obtain ⟨s1, s2, s3⟩ := hSw
                  first | (go_simp; done) | (go_simp; with_reducible rfl)
                try simp only [Act.put, List.setIfInBounds_toArray, List.set_cons_zero, List.set_cons_succ]
                refine wpAnyV_take (i := 17) (by kernel_rfl) (by kernel_rfl) (by kernel_rfl) (by kernel_rfl) (by kernel_rfl) ⟨hc1y, hg0y, hg1y⟩ (fun o ho => ?_)
                conv at ho => rhs; whnf
                subst ho
                refine ⟨?_, fun _ _ _ h => h, Or.inl ⟨by rfl, ?_⟩, ?_⟩
                rotate_left
                · intro w hSw
                  try dsimp only at hSw
                  try obtain ⟨s1, s2, s3⟩ := hSw
                  first | (go_simp; done) | (go_simp; with_reducible rfl)
                try simp only [Act.put, List.setIfInBounds_toArray, List.set_cons_zero, List.set_cons_succ]
                refine wpAnyV_two (i := 1) (j := 10) (by kernel_rfl) (by kernel_rfl) (by kernel_rfl) (fun o ho K hK => ?_) (fun o ho K hK => ?_)
                · conv at ho => rhs; whnf
                  subst ho
                  go_simp
                  refine hK.out _ _ (Or.inr ⟨((Ext.refl NoB _).alloc _).cell hc1y nb, ((Ext.refl NoB _).alloc _).cell hg0y nb, ((Ext.refl NoB _).alloc _).cell hg1y nb⟩) ?_
                  clear hK K
                  try simp only [Act.put, List.setIfInBounds_toArray, List.set_cons_zero, List.set_cons_succ]
                  refine wpAnyV_two (i := 8) (j := 10) (by kernel_rfl) (by kernel_rfl) (by kernel_rfl) (fun o ho K hK => ?_) (fun o ho K hK => ?_)
                  · conv at ho => rhs; whnf
                    subst ho
                    refine step_appendW wy 28 16 elem_tm timerE_len timerE_one (some (wy.heap.size)) (.slice (some ⟨wy.heap.size, 0, none⟩) 0 0) ([]) (L.take L.length) (.tmp 50) (.tmp 56) ((some ⟨b2, o2, none⟩)) (L.length) (b') (o) (L.length) q1'.out q2 q3'.out (ne_own (by omega)) rfl rfl rfl rfl ((Ext.refl NoB wy).drew.alloc _) (SlO.made (b := wy.heap.size) (xs := ([] : List Tm)) (cs := #[]) (alloc_at wy.drew _) rfl timerE_len (Nat.zero_le _)) ((SlR.keep hLy ((Ext.refl NoB wy).drew.alloc _) nb1).take timerE_len (Nat.le_refl _)) (fun v85 w85 g85 hO85 hx85 hE85 hq85 => ?_)
                    try go_simp
                    refine hK.out _ _ (Or.inr ⟨(hE85).cell hc1y nb, (hE85).cell hg0y nb, (hE85).cell hg1y nb⟩) ?_
                    clear hK K
                    try simp only [Act.put, List.setIfInBounds_toArray, List.set_cons_zero, List.set_cons_succ]
                    refine wpAnyV_one (i := 10) (by kernel_rfl) (by kernel_rfl) (fun o ho K hK => ?_)
                    conv at ho => rhs; whnf
                    subst ho
                    go_simp
                    refine hK.out _ _ (Or.inr ⟨Ext.cell ((Ext.refl NoB _).alloc _) (hE85.cell hc1y nb) nb, Ext.cell ((Ext.refl NoB _).alloc _) (hE85.cell hg0y nb) nb, Ext.cell ((Ext.refl NoB _).alloc _) (hE85.cell hg1y nb) nb⟩) ?_
                    clear hK K
                    try simp only [Act.put, List.setIfInBounds_toArray, List.set_cons_zero, List.set_cons_succ]
                    refine wpAnyV_one (i := 11) (by kernel_rfl) (by kernel_rfl) (fun o ho K hK => ?_)
                    conv at ho => rhs; whnf
                    subst ho
                    refine step_appendW wy 28 16 elem_tm timerE_len timerE_one (g85) (v85) ([] ++ L.take L.length) ([(((due : Int), id) : Tm)]) (.tmp 57) (.tmp 59) (some ⟨w85.heap.size, 0, none⟩) (1) (w85.heap.size) (0) (1) q4 q5 rfl hq85 rfl rfl rfl rfl (hE85.alloc _) (hO85.keep (F := NoB) ((Ext.refl NoB w85).alloc _) (fun _ _ => nb)) (SlR.one' (E := 33) (fr := (0, 0)) (cs := #[.int .u64 due, .int .i64 id]) (alloc_at w85 _) rfl) (fun v90 w90 g90 hO90 hx90 hE90 hq90 => ?_)
                    try go_simp
                    refine hK.out _ _ (Or.inr ⟨(hE90).cell hc1y nb, (hE90).cell hg0y nb, (hE90).cell hg1y nb⟩) ?_
                    clear hK K
                    try simp only [Act.put, List.setIfInBounds_toArray, List.set_cons_zero, List.set_cons_succ]
                    refine wpAnyV_one (i := 18) (by kernel_rfl) (by kernel_rfl) (fun o ho K hK => ?_)
                    conv at ho => rhs; whnf
                    subst ho
                    refine step_appendW wy 28 16 elem_tm timerE_len timerE_one (g90) (v90) ([] ++ L.take L.length ++ [(((due : Int), id) : Tm)]) (L.drop L.length) (.tmp 60) (.tmp 66) (some ⟨b2, o2, none⟩) (0) (b') (0) (0) q6 q7 q8'.out hq90 rfl rfl rfl rfl (hE90) (hO90) (slR_nil (hdn.out rfl) hcm) (fun v97 w97 g97 hO97 hx97 hE97 hq97 => ?_)
                    generalize hl97 : [] ++ L.take L.length ++ [(((due : Int), id) : Tm)] ++ L.drop L.length = L97 at hO97
                    have hl97' := Lib.hid hl97
                    clear hl97
                    obtain ⟨A97, c97, b97, o97, rfl, hr97, hg97⟩ := hO97.read
                    try go_simp
                    refine hK.out _ _ (Or.inr ⟨(hE97).cell hc1y nb, (hE97).cell hg0y nb, (hE97).cell hg1y nb⟩) ?_
                    clear hK K
                    try simp only [Act.put, List.setIfInBounds_toArray, List.set_cons_zero, List.set_cons_succ]
                    have zc97 := hE97.cell hc1y nb
                    have zf97 := frz0 (off := 1) (hE97.keep hby1 nb)
                    refine wpAnyV_one (i := 19) (by kernel_rfl) (by kernel_rfl) (fun o ho K hK => ?_)
                    conv at ho => rhs; whnf
                    subst ho
                    go_simp
                    refine hK.out _ _ (Or.inr ⟨(hE97).cell hc1y nb, (hE97).cell hg0y nb, (hE97).cell hg1y nb⟩) ?_
                    clear hK K
                    try simp only [Act.put, List.setIfInBounds_toArray, List.set_cons_zero, List.set_cons_succ]
                    refine wpAnyV_one (i := 20) (by kernel_rfl) (by kernel_rfl) (fun o ho K hK => ?_)
                    conv at ho => rhs; whnf
                    subst ho
                    go_simp
                    refine hK.out _ _ (Or.inr ⟨(hE97).cell hc1y nb, (hE97).cell hg0y nb, (hE97).cell hg1y nb⟩) ?_
                    clear hK K
                    try simp only [Act.put, List.setIfInBounds_toArray, List.set_cons_zero, List.set_cons_succ]
                    refine wpAnyV_one (i := 21) (by kernel_rfl) (by kernel_rfl) (fun o ho K hK => ?_)
                    conv at ho => rhs; whnf
                    subst ho
                    go_simp
                    refine hK.out _ _ (Or.inl rfl) ?_
                    clear hK K
                    try simp only [Act.put, List.setIfInBounds_toArray, List.set_cons_zero, List.set_cons_succ]
                    refine wpAnyV_done (by kernel_rfl) ?_ _
                    clear zc97 zf97
                    go_wp2_with fail
                    go_ret
                    exact refAddW_end hxy hby1 hbw hgt (by rw [← hl97'.out]; exact refIns_ok L.length hsrt.out hlow.out hstop.out) hok.out hO97 hE97 hq97 hg97
                  · conv at ho => rhs; whnf
                    subst ho
                    go_simp
                    refine hK.out _ _ (Or.inr ⟨(((Ext.refl NoB _).alloc _).alloc _).cell hc1y nb, (((Ext.refl NoB _).alloc _).alloc _).cell hg0y nb, (((Ext.refl NoB _).alloc _).alloc _).cell hg1y nb⟩) ?_
                    clear hK K
                    try simp only [Act.put, List.setIfInBounds_toArray, List.set_cons_zero, List.set_cons_succ]
                    refine wpAnyV_one (i := 8) (by kernel_rfl) (by kernel_rfl) (fun o ho K hK => ?_)
                    conv at ho => rhs; whnf
                    subst ho
                    refine step_appendW wy 28 16 elem_tm timerE_len timerE_one (some (wy.heap.size)) (.slice (some ⟨wy.heap.size, 0, none⟩) 0 0) ([]) (L.take L.length) (.tmp 50) (.tmp 56) ((some ⟨b2, o2, none⟩)) (L.length) (b') (o) (L.length) q1'.out q2 q3'.out (ne_own (by omega)) rfl rfl rfl rfl (((Ext.refl NoB wy).drew.alloc _).alloc _) (SlO.made (b := wy.heap.size) (xs := ([] : List Tm)) (cs := #[]) (((Ext.refl NoB _).alloc _).keep (alloc_at wy.drew _) nb) rfl timerE_len (Nat.zero_le _)) ((SlR.keep hLy (((Ext.refl NoB wy).drew.alloc _).alloc _) nb1).take timerE_len (Nat.le_refl _)) (fun v85 w85 g85 hO85 hx85 hE85 hq85 => ?_)
                    try go_simp
                    refine hK.out _ _ (Or.inr ⟨(hE85).cell hc1y nb, (hE85).cell hg0y nb, (hE85).cell hg1y nb⟩) ?_
                    clear hK K
                    try simp only [Act.put, List.setIfInBounds_toArray, List.set_cons_zero, List.set_cons_succ]
                    refine wpAnyV_one (i := 11) (by kernel_rfl) (by kernel_rfl) (fun o ho K hK => ?_)
                    conv at ho => rhs; whnf
                    subst ho
                    refine step_appendW wy 28 16 elem_tm timerE_len timerE_one (g85) (v85) ([] ++ L.take L.length) ([(((due : Int), id) : Tm)]) (.tmp 57) (.tmp 59) (some ⟨wy.heap.size + 1, 0, none⟩) (1) (wy.heap.size + 1) (0) (1) q4 q5 rfl hq85 rfl rfl rfl rfl (hE85) (hO85) (SlR.one' (E := 33) (fr := (0, 0)) (cs := #[.int .u64 due, .int .i64 id]) (hx85.keep (alloc_at' _ _ _ (by simp)) (some_ne (by omega))) rfl) (fun v90 w90 g90 hO90 hx90 hE90 hq90 => ?_)
                    try go_simp
                    refine hK.out _ _ (Or.inr ⟨(hE90).cell hc1y nb, (hE90).cell hg0y nb, (hE90).cell hg1y nb⟩) ?_
                    clear hK K
                    try simp only [Act.put, List.setIfInBounds_toArray, List.set_cons_zero, List.set_cons_succ]
                    refine wpAnyV_one (i := 18) (by kernel_rfl) (by kernel_rfl) (fun o ho K hK => ?_)
                    conv at ho => rhs; whnf
                    subst ho
                    refine step_appendW wy 28 16 elem_tm timerE_len timerE_one (g90) (v90) ([] ++ L.take L.length ++ [(((due : Int), id) : Tm)]) (L.drop L.length) (.tmp 60) (.tmp 66) (some ⟨b2, o2, none⟩) (0) (b') (0) (0) q6 q7 q8'.out hq90 rfl rfl rfl rfl (hE90) (hO90) (slR_nil (hdn.out rfl) hcm) (fun v97 w97 g97 hO97 hx97 hE97 hq97 => ?_)
                    generalize hl97 : [] ++ L.take L.length ++ [(((due : Int), id) : Tm)] ++ L.drop L.length = L97 at hO97
                    have hl97' := Lib.hid hl97
                    clear hl97
                    obtain ⟨A97, c97, b97, o97, rfl, hr97, hg97⟩ := hO97.read
                    try go_simp
                    refine hK.out _ _ (Or.inr ⟨(hE97).cell hc1y nb, (hE97).cell hg0y nb, (hE97).cell hg1y nb⟩) ?_
                    clear hK K
                    try simp only [Act.put, List.setIfInBounds_toArray, List.set_cons_zero, List.set_cons_succ]
                    have zc97 := hE97.cell hc1y nb
                    have zf97 := frz0 (off := 1) (hE97.keep hby1 nb)
                    refine wpAnyV_one (i := 19) (by kernel_rfl) (by kernel_rfl) (fun o ho K hK => ?_)
                    conv at ho => rhs; whnf
                    subst ho
                    go_simp
                    refine hK.out _ _ (Or.inr ⟨(hE97).cell hc1y nb, (hE97).cell hg0y nb, (hE97).cell hg1y nb⟩) ?_
                    clear hK K
                    try simp only [Act.put, List.setIfInBounds_toArray, List.set_cons_zero, List.set_cons_succ]
                    refine wpAnyV_one (i := 20) (by kernel_rfl) (by kernel_rfl) (fun o ho K hK => ?_)
                    conv at ho => rhs; whnf
                    subst ho
                    go_simp
                    refine hK.out _ _ (Or.inr ⟨(hE97).cell hc1y nb, (hE97).cell hg0y nb, (hE97).cell hg1y nb⟩) ?_
                    clear hK K
                    try simp only [Act.put, List.setIfInBounds_toArray, List.set_cons_zero, List.set_cons_succ]
                    refine wpAnyV_one (i := 21) (by kernel_rfl) (by kernel_rfl) (fun o ho K hK => ?_)
                    conv at ho => rhs; whnf
                    subst ho
                    go_simp
                    refine hK.out _ _ (Or.inl rfl) ?_
                    clear hK K
                    try simp only [Act.put, List.setIfInBounds_toArray, List.set_cons_zero, List.set_cons_succ]
                    refine wpAnyV_done (by kernel_rfl) ?_ _
                    clear zc97 zf97
                    go_wp2_with fail
                    go_ret
                    exact refAddW_end hxy hby1 hbw hgt (by rw [← hl97'.out]; exact refIns_ok L.length hsrt.out hlow.out hstop.out) hok.out hO97 hE97 hq97 hg97
                · conv at ho => rhs; whnf
                  subst ho
                  go_simp
                  refine hK.out _ _ (Or.inr ⟨((Ext.refl NoB _).alloc _).cell hc1y nb, ((Ext.refl NoB _).alloc _).cell hg0y nb, ((Ext.refl NoB _).alloc _).cell hg1y nb⟩) ?_
                  clear hK K
                  try simp only [Act.put, List.setIfInBounds_toArray, List.set_cons_zero, List.set_cons_succ]
                  refine wpAnyV_one (i := 1) (by kernel_rfl) (by kernel_rfl) (fun o ho K hK => ?_)
                  conv at ho => rhs; whnf
                  subst ho
                  go_simp
                  refine hK.out _ _ (Or.inr ⟨(((Ext.refl NoB _).alloc _).alloc _).cell hc1y nb, (((Ext.refl NoB _).alloc _).alloc _).cell hg0y nb, (((Ext.refl NoB _).alloc _).alloc _).cell hg1y nb⟩) ?_
                  clear hK K
                  try simp only [Act.put, List.setIfInBounds_toArray, List.set_cons_zero, List.set_cons_succ]
                  refine wpAnyV_one (i := 8) (by kernel_rfl) (by kernel_rfl) (fun o ho K hK => ?_)
                  conv at ho => rhs; whnf
                  subst ho
                  refine step_appendW wy 28 16 elem_tm timerE_len timerE_one (some (wy.heap.size + 1)) (.slice (some ⟨wy.heap.size + 1, 0, none⟩) 0 0) ([]) (L.take L.length) (.tmp 50) (.tmp 56) ((some ⟨b2, o2, none⟩)) (L.length) (b') (o) (L.length) q1'.out q2 q3'.out (ne_own (by omega)) rfl rfl rfl rfl (((Ext.refl NoB wy).drew.alloc _).alloc _) (SlO.made (b := wy.heap.size + 1) (xs := ([] : List Tm)) (cs := #[]) (alloc_at' _ _ _ (by simp)) rfl timerE_len (Nat.zero_le _)) ((SlR.keep hLy (((Ext.refl NoB wy).drew.alloc _).alloc _) nb1).take timerE_len (Nat.le_refl _)) (fun v85 w85 g85 hO85 hx85 hE85 hq85 => ?_)
                  try go_simp
                  refine hK.out _ _ (Or.inr ⟨(hE85).cell hc1y nb, (hE85).cell hg0y nb, (hE85).cell hg1y nb⟩) ?_
                  clear hK K
                  try simp only [Act.put, List.setIfInBounds_toArray, List.set_cons_zero, List.set_cons_succ]
                  refine wpAnyV_one (i := 11) (by kernel_rfl) (by kernel_rfl) (fun o ho K hK => ?_)
                  conv at ho => rhs; whnf
                  subst ho
                  refine step_appendW wy 28 16 elem_tm timerE_len timerE_one (g85) (v85) ([] ++ L.take L.length) ([(((due : Int), id) : Tm)]) (.tmp 57) (.tmp 59) (some ⟨wy.heap.size, 0, none⟩) (1) (wy.heap.size) (0) (1) q4 q5 rfl hq85 rfl rfl rfl rfl (hE85) (hO85) (SlR.one' (E := 33) (fr := (0, 0)) (cs := #[.int .u64 due, .int .i64 id]) (hx85.keep (((Ext.refl NoB _).alloc _).keep (alloc_at wy.drew _) nb) (some_ne (by omega))) rfl) (fun v90 w90 g90 hO90 hx90 hE90 hq90 => ?_)
                  try go_simp
                  refine hK.out _ _ (Or.inr ⟨(hE90).cell hc1y nb, (hE90).cell hg0y nb, (hE90).cell hg1y nb⟩) ?_
                  clear hK K
                  try simp only [Act.put, List.setIfInBounds_toArray, List.set_cons_zero, List.set_cons_succ]
                  refine wpAnyV_one (i := 18) (by kernel_rfl) (by kernel_rfl) (fun o ho K hK => ?_)
                  conv at ho => rhs; whnf
                  subst ho
                  refine step_appendW wy 28 16 elem_tm timerE_len timerE_one (g90) (v90) ([] ++ L.take L.length ++ [(((due : Int), id) : Tm)]) (L.drop L.length) (.tmp 60) (.tmp 66) (some ⟨b2, o2, none⟩) (0) (b') (0) (0) q6 q7 q8'.out hq90 rfl rfl rfl rfl (hE90) (hO90) (slR_nil (hdn.out rfl) hcm) (fun v97 w97 g97 hO97 hx97 hE97 hq97 => ?_)
                  generalize hl97 : [] ++ L.take L.length ++ [(((due : Int), id) : Tm)] ++ L.drop L.length = L97 at hO97
                  have hl97' := Lib.hid hl97
                  clear hl97
                  obtain ⟨A97, c97, b97, o97, rfl, hr97, hg97⟩ := hO97.read
                  try go_simp
                  refine hK.out _ _ (Or.inr ⟨(hE97).cell hc1y nb, (hE97).cell hg0y nb, (hE97).cell hg1y nb⟩) ?_
                  clear hK K
                  try simp only [Act.put, List.setIfInBounds_toArray, List.set_cons_zero, List.set_cons_succ]
                  have zc97 := hE97.cell hc1y nb
                  have zf97 := frz0 (off := 1) (hE97.keep hby1 nb)
                  refine wpAnyV_one (i := 19) (by kernel_rfl) (by kernel_rfl) (fun o ho K hK => ?_)
                  conv at ho => rhs; whnf
                  subst ho
                  go_simp
                  refine hK.out _ _ (Or.inr ⟨(hE97).cell hc1y nb, (hE97).cell hg0y nb, (hE97).cell hg1y nb⟩) ?_
                  clear hK K
                  try simp only [Act.put, List.setIfInBounds_toArray, List.set_cons_zero, List.set_cons_succ]
                  refine wpAnyV_one (i := 20) (by kernel_rfl) (by kernel_rfl) (fun o ho K hK => ?_)
                  conv at ho => rhs; whnf
                  subst ho
                  go_simp
                  refine hK.out _ _ (Or.inr ⟨(hE97).cell hc1y nb, (hE97).cell hg0y nb, (hE97).cell hg1y nb⟩) ?_
                  clear hK K
                  try simp only [Act.put, List.setIfInBounds_toArray, List.set_cons_zero, List.set_cons_succ]
                  refine wpAnyV_one (i := 21) (by kernel_rfl) (by kernel_rfl) (fun o ho K hK => ?_)
                  conv at ho => rhs; whnf
                  subst ho
                  go_simp
                  refine hK.out _ _ (Or.inl rfl) ?_
                  clear hK K
                  try simp only [Act.put, List.setIfInBounds_toArray, List.set_cons_zero, List.set_cons_succ]
                  refine wpAnyV_done (by kernel_rfl) ?_ _
                  clear zc97 zf97
                  go_wp2_with fail
                  go_ret
                  exact refAddW_end hxy hby1 hbw hgt (by rw [← hl97'.out]; exact refIns_ok L.length hsrt.out hlow.out hstop.out) hok.out hO97 hE97 hq97 hg97
              · have hcc' := hcc
                have hki : (L.length : Int) ≤ (c : Int) := by omega
                have hkn : L.length ≤ c := by omega
                have hct : ¬ c = L.length := hcc'
                have q1' := Lib.hid (show (([] : List Tm).length + (L.take L.length).length) * 16 ≤ 140737488355328 by rw [List.length_take, List.length_nil]; omega)
                have q2 : ([] : List Tm).length + (L.take L.length).length ≤ maxLen := by rw [List.length_take, List.length_nil]; unfold maxLen; omega
                have q3' := Lib.hid (show L.length = (L.take L.length).length by first | (rw [List.length_take]; omega) | simp)
                have q4 : (([] ++ L.take L.length).length + [(((due : Int), id) : Tm)].length) * 16 ≤ 140737488355328 := by rw [List.length_append, List.length_nil, List.length_take, List.length_singleton]; omega
                have q5 : ([] ++ L.take L.length).length + [(((due : Int), id) : Tm)].length ≤ maxLen := by rw [List.length_append, List.length_nil, List.length_take, List.length_singleton]; unfold maxLen; omega
                have q6 : (([] ++ L.take L.length ++ [(((due : Int), id) : Tm)]).length + (L.drop L.length).length) * 16 ≤ 140737488355328 := by rw [List.length_append, List.length_append, List.length_nil, List.length_take, List.length_singleton, List.length_drop]; omega
                have q7 : ([] ++ L.take L.length ++ [(((due : Int), id) : Tm)]).length + (L.drop L.length).length ≤ maxLen := by rw [List.length_append, List.length_append, List.length_nil, List.length_take, List.length_singleton, List.length_drop]; unfold maxLen; omega
                have q8' := Lib.hid (show 0 = (L.drop L.length).length by first | (rw [List.length_drop]; done) | (rw [List.length_drop]; omega) | simp)
                have hdn := Lib.hid (show L.length = L.length → L.drop L.length = [] from fun e => List.drop_of_length_le (Nat.le_of_eq e.symm))
                have hcm : c - L.length ≤ maxLen := by unfold maxLen; omega
                refine wp_region_V 21 (fun w' => w'.cell? ⟨b, 1, none⟩ = some (.slice (some ⟨b2, o2, none⟩) L.length c) ∧ w'.cell? ⟨tb, 0, none⟩ = some (.int .u64 due) ∧ w'.cell? ⟨tb, 1, none⟩ = some (.int .i64 id)) (by kernel_rfl) ?_
                try simp only [Act.put, List.setIfInBounds_toArray, List.set_cons_zero, List.set_cons_succ]
                refine wpAnyV_take (i := 0) (by kernel_rfl) (by kernel_rfl) (by kernel_rfl) (by kernel_rfl) (by kernel_rfl) ⟨hc1y, hg0y, hg1y⟩ (fun o ho => ?_)
                conv at ho => rhs; whnf
                subst ho
                refine ⟨?_, fun _ _ _ h => h, Or.inl ⟨by rfl, ?_⟩, ?_⟩
                rotate_left
                · intro w hSw
                  try dsimp only at hSw
                  try obtain ⟨s1, s2, s3⟩ := hSw
                  first | (go_simp; done) | (go_simp; with_reducible rfl)
                try simp only [Act.put, List.setIfInBounds_toArray, List.set_cons_zero, List.set_cons_succ]
                refine wpAnyV_take (i := 2) (by kernel_rfl) (by kernel_rfl) (by kernel_rfl) (by kernel_rfl) (by kernel_rfl) ⟨hc1y, hg0y, hg1y⟩ (fun o ho => ?_)
                conv at ho => rhs; whnf
                subst ho
                refine ⟨?_, fun _ _ _ h => h, Or.inl ⟨by rfl, ?_⟩, ?_⟩
                rotate_left
                · intro w hSw
                  try dsimp only at hSw
                  try obtain ⟨s1, s2, s3⟩ := hSw
                  first | (go_simp; done) | (go_simp; with_reducible rfl)
                try simp only [Act.put, List.setIfInBounds_toArray, List.set_cons_zero, List.set_cons_succ]
                refine wpAnyV_take (i := 3) (by kernel_rfl) (by kernel_rfl) (by kernel_rfl) (by kernel_rfl) (by kernel_rfl) ⟨hc1y, hg0y, hg1y⟩ (fun o ho => ?_)
                conv at ho => rhs; whnf
                subst ho
                refine ⟨?_, fun _ _ _ h => h, Or.inl ⟨by rfl, ?_⟩, ?_⟩
                rotate_left
                · intro w hSw
                  try dsimp only at hSw
                  try obtain ⟨s1, s2, s3⟩ := hSw
                  first | (go_simp; done) | (go_simp; with_reducible rfl)
                try simp only [Act.put, List.setIfInBounds_toArray, List.set_cons_zero, List.set_cons_succ]
                refine wpAnyV_take (i := 4) (by kernel_rfl) (by kernel_rfl) (by kernel_rfl) (by kernel_rfl) (by kernel_rfl) ⟨hc1y, hg0y, hg1y⟩ (fun o ho => ?_)
                conv at ho => rhs; whnf
                subst ho
                refine ⟨?_, fun _ _ _ h => h, Or.inl ⟨by rfl, ?_⟩, ?_⟩
                rotate_left
                · intro w hSw
                  try dsimp only at hSw
                  try obtain ⟨s1, s2, s3⟩ := hSw
                  first | (go_simp; done) | (go_simp; with_reducible rfl)
                try simp only [Act.put, List.setIfInBounds_toArray, List.set_cons_zero, List.set_cons_succ]
                refine wpAnyV_take (i := 5) (by kernel_rfl) (by kernel_rfl) (by kernel_rfl) (by kernel_rfl) (by kernel_rfl) ⟨hc1y, hg0y, hg1y⟩ (fun o ho => ?_)
                conv at ho => rhs; whnf
                subst ho
                refine ⟨?_, fun _ _ _ h => h, Or.inl ⟨by rfl, ?_⟩, ?_⟩
                rotate_left
                · intro w hSw
                  try dsimp only at hSw
                  try obtain ⟨s1, s2, s3⟩ := hSw
                  first | (go_simp; done) | (go_simp; with_reducible rfl)
                try simp only [Act.put, List.setIfInBounds_toArray, List.set_cons_zero, List.set_cons_succ]
                refine wpAnyV_take (i := 6) (by kernel_rfl) (by kernel_rfl) (by kernel_rfl) (by kernel_rfl) (by kernel_rfl) ⟨hc1y, hg0y, hg1y⟩ (fun o ho => ?_)
                conv at ho => rhs; whnf
                subst ho
                refine ⟨?_, fun _ _ _ h => h, Or.inl ⟨by rfl, ?_⟩, ?_⟩
                rotate_left
                · intro w hSw
                  try dsimp only at hSw
                  try obtain ⟨s1, s2, s3⟩ := hSw
                  first | (go_simp; done) | (go_simp; with_reducible rfl)
                try simp only [Act.put, List.setIfInBounds_toArray, List.set_cons_zero, List.set_cons_succ]
                refine wpAnyV_take (i := 7) (by kernel_rfl) (by kernel_rfl) (by kernel_rfl) (by kernel_rfl) (by kernel_rfl) ⟨hc1y, hg0y, hg1y⟩ (fun o ho => ?_)
                conv at ho => rhs; whnf
                subst ho
                refine ⟨?_, fun _ _ _ h => h, Or.inl ⟨by rfl, ?_⟩, ?_⟩
                rotate_left
                · intro w hSw
                  try dsimp only at hSw
                  try obtain ⟨s1, s2, s3⟩ := hSw
                  first | (go_simp; done) | (go_simp; with_reducible rfl)
                try simp only [Act.put, List.setIfInBounds_toArray, List.set_cons_zero, List.set_cons_succ]
                refine wpAnyV_take (i := 9) (by kernel_rfl) (by kernel_rfl) (by kernel_rfl) (by kernel_rfl) (by kernel_rfl) ⟨hc1y, hg0y, hg1y⟩ (fun o ho => ?_)
                conv at ho => rhs; whnf
                subst ho
                refine ⟨?_, fun _ _ _ h => h, Or.inl ⟨by rfl, ?_⟩, ?_⟩
                rotate_left
                · intro w hSw
                  try dsimp only at hSw
                  try obtain ⟨s1, s2, s3⟩ := hSw
                  first | (go_simp; done) | (go_simp; with_reducible rfl)
                try simp only [Act.put, List.setIfInBounds_toArray, List.set_cons_zero, List.set_cons_succ]
                refine wpAnyV_take (i := 12) (by kernel_rfl) (by kernel_rfl) (by kernel_rfl) (by kernel_rfl) (by kernel_rfl) ⟨hc1y, hg0y, hg1y⟩ (fun o ho => ?_)
                conv at ho => rhs; whnf
                subst ho
                refine ⟨?_, fun _ _ _ h => h, Or.inl ⟨by rfl, ?_⟩, ?_⟩
                rotate_left
                · intro w hSw
                  try dsimp only at hSw
                  try obtain ⟨s1, s2, s3⟩ := hSw
                  first | (go_simp; done) | (go_simp; with_reducible rfl)
                try simp only [Act.put, List.setIfInBounds_toArray, List.set_cons_zero, List.set_cons_succ]
                refine wpAnyV_take (i := 13) (by kernel_rfl) (by kernel_rfl) (by kernel_rfl) (by kernel_rfl) (by kernel_rfl) ⟨hc1y, hg0y, hg1y⟩ (fun o ho => ?_)
                conv at ho => rhs; whnf
                subst ho
                refine ⟨?_, fun _ _ _ h => h, Or.inl ⟨by rfl, ?_⟩, ?_⟩
                rotate_left
                · intro w hSw
                  try dsimp only at hSw
                  try obtain ⟨s1, s2, s3⟩ := hSw
                  first | (go_simp; done) | (go_simp; with_reducible rfl)
                try simp only [Act.put, List.setIfInBounds_toArray, List.set_cons_zero, List.set_cons_succ]
                refine wpAnyV_take (i := 14) (by kernel_rfl) (by kernel_rfl) (by kernel_rfl) (by kernel_rfl) (by kernel_rfl) ⟨hc1y, hg0y, hg1y⟩ (fun o ho => ?_)
                conv at ho => rhs; whnf
                subst ho
                refine ⟨?_, fun _ _ _ h => h, Or.inl ⟨by rfl, ?_⟩, ?_⟩
                rotate_left
                · intro w hSw
                  try dsimp only at hSw
                  try obtain ⟨s1, s2, s3⟩ := hSw
                  first | (go_simp; done) | (go_simp; with_reducible rfl)
                try simp only [Act.put, List.setIfInBounds_toArray, List.set_cons_zero, List.set_cons_succ]
                refine wpAnyV_take (i := 15) (by kernel_rfl) (by kernel_rfl) (by kernel_rfl) (by kernel_rfl) (by kernel_rfl) ⟨hc1y, hg0y, hg1y⟩ (fun o ho => ?_)
                conv at ho => rhs; whnf
                subst ho
                refine ⟨?_, fun _ _ _ h => h, Or.inl ⟨by rfl, ?_⟩, ?_⟩
                rotate_left
                · intro w hSw
                  try dsimp only at hSw
                  try obtain ⟨s1, s2, s3⟩ := hSw
                  first | (go_simp; done) | (go_simp; with_reducible rfl)
                try simp only [Act.put, List.setIfInBounds_toArray, List.set_cons_zero, List.set_cons_succ]
                refine wpAnyV_take (i := 16) (by kernel_rfl) (by kernel_rfl) (by kernel_rfl) (by kernel_rfl) (by kernel_rfl) ⟨hc1y, hg0y, hg1y⟩ (fun o ho => ?_)
                conv at ho => rhs; whnf
                subst ho
                refine ⟨?_, fun _ _ _ h => h, Or.inl ⟨by rfl, ?_⟩, ?_⟩
                rotate_left
                · intro w hSw
                  try dsimp only at hSw
                  try obtain ⟨s1, s2, s3⟩ := hSw
                  first | (go_simp; done) | (go_simp; with_reducible rfl)
                try simp only [Act.put, List.setIfInBounds_toArray, List.set_cons_zero, List.set_cons_succ]
                refine wpAnyV_take (i := 17) (by kernel_rfl) (by kernel_rfl) (by kernel_rfl) (by kernel_rfl) (by kernel_rfl) ⟨hc1y, hg0y, hg1y⟩ (fun o ho => ?_)
                conv at ho => rhs; whnf
                subst ho
                refine ⟨?_, fun _ _ _ h => h, Or.inl ⟨by rfl, ?_⟩, ?_⟩
                rotate_left
                · intro w hSw
                  try dsimp only at hSw
                  try obtain ⟨s1, s2, s3⟩ := hSw
                  first | (go_simp; done) | (go_simp; with_reducible rfl)
                try simp only [Act.put, List.setIfInBounds_toArray, List.set_cons_zero, List.set_cons_succ]
                refine wpAnyV_two (i := 1) (j := 10) (by kernel_rfl) (by kernel_rfl) (by kernel_rfl) (fun o ho K hK => ?_) (fun o ho K hK => ?_)
                · conv at ho => rhs; whnf
                  subst ho
                  go_simp
                  refine hK.out _ _ (Or.inr ⟨((Ext.refl NoB _).alloc _).cell hc1y nb, ((Ext.refl NoB _).alloc _).cell hg0y nb, ((Ext.refl NoB _).alloc _).cell hg1y nb⟩) ?_
                  clear hK K
                  try simp only [Act.put, List.setIfInBounds_toArray, List.set_cons_zero, List.set_cons_succ]
                  refine wpAnyV_two (i := 8) (j := 10) (by kernel_rfl) (by kernel_rfl) (by kernel_rfl) (fun o ho K hK => ?_) (fun o ho K hK => ?_)
                  · conv at ho => rhs; whnf
                    subst ho
                    refine step_appendW wy 28 16 elem_tm timerE_len timerE_one (some (wy.heap.size)) (.slice (some ⟨wy.heap.size, 0, none⟩) 0 0) ([]) (L.take L.length) (.tmp 50) (.tmp 56) ((some ⟨b2, o2, none⟩)) (c) (b') (o) (L.length) q1'.out q2 q3'.out (ne_own (by omega)) rfl rfl rfl rfl ((Ext.refl NoB wy).drew.alloc _) (SlO.made (b := wy.heap.size) (xs := ([] : List Tm)) (cs := #[]) (alloc_at wy.drew _) rfl timerE_len (Nat.zero_le _)) ((SlR.keep hLy ((Ext.refl NoB wy).drew.alloc _) nb1).take timerE_len (Nat.le_refl _)) (fun v85 w85 g85 hO85 hx85 hE85 hq85 => ?_)
                    try go_simp
                    refine hK.out _ _ (Or.inr ⟨(hE85).cell hc1y nb, (hE85).cell hg0y nb, (hE85).cell hg1y nb⟩) ?_
                    clear hK K
                    try simp only [Act.put, List.setIfInBounds_toArray, List.set_cons_zero, List.set_cons_succ]
                    refine wpAnyV_one (i := 10) (by kernel_rfl) (by kernel_rfl) (fun o ho K hK => ?_)
                    conv at ho => rhs; whnf
                    subst ho
                    go_simp
                    refine hK.out _ _ (Or.inr ⟨Ext.cell ((Ext.refl NoB _).alloc _) (hE85.cell hc1y nb) nb, Ext.cell ((Ext.refl NoB _).alloc _) (hE85.cell hg0y nb) nb, Ext.cell ((Ext.refl NoB _).alloc _) (hE85.cell hg1y nb) nb⟩) ?_
                    clear hK K
                    try simp only [Act.put, List.setIfInBounds_toArray, List.set_cons_zero, List.set_cons_succ]
                    refine wpAnyV_one (i := 11) (by kernel_rfl) (by kernel_rfl) (fun o ho K hK => ?_)
                    conv at ho => rhs; whnf
                    subst ho
                    refine step_appendW wy 28 16 elem_tm timerE_len timerE_one (g85) (v85) ([] ++ L.take L.length) ([(((due : Int), id) : Tm)]) (.tmp 57) (.tmp 59) (some ⟨w85.heap.size, 0, none⟩) (1) (w85.heap.size) (0) (1) q4 q5 rfl hq85 rfl rfl rfl rfl (hE85.alloc _) (hO85.keep (F := NoB) ((Ext.refl NoB w85).alloc _) (fun _ _ => nb)) (SlR.one' (E := 33) (fr := (0, 0)) (cs := #[.int .u64 due, .int .i64 id]) (alloc_at w85 _) rfl) (fun v90 w90 g90 hO90 hx90 hE90 hq90 => ?_)
                    try go_simp
                    refine hK.out _ _ (Or.inr ⟨(hE90).cell hc1y nb, (hE90).cell hg0y nb, (hE90).cell hg1y nb⟩) ?_
                    clear hK K
                    try simp only [Act.put, List.setIfInBounds_toArray, List.set_cons_zero, List.set_cons_succ]
                    refine wpAnyV_one (i := 18) (by kernel_rfl) (by kernel_rfl) (fun o ho K hK => ?_)
                    conv at ho => rhs; whnf
                    subst ho
                    refine step_appendW wy 28 16 elem_tm timerE_len timerE_one (g90) (v90) ([] ++ L.take L.length ++ [(((due : Int), id) : Tm)]) (L.drop L.length) (.tmp 60) (.tmp 66) (some ⟨b2, o2 + L.length * 2, none⟩) (c - L.length) (b') (0) (0) q6 q7 q8'.out hq90 rfl rfl rfl rfl (hE90) (hO90) (slR_nil (hdn.out rfl) hcm) (fun v97 w97 g97 hO97 hx97 hE97 hq97 => ?_)
                    generalize hl97 : [] ++ L.take L.length ++ [(((due : Int), id) : Tm)] ++ L.drop L.length = L97 at hO97
                    have hl97' := Lib.hid hl97
                    clear hl97
                    obtain ⟨A97, c97, b97, o97, rfl, hr97, hg97⟩ := hO97.read
                    try go_simp
                    refine hK.out _ _ (Or.inr ⟨(hE97).cell hc1y nb, (hE97).cell hg0y nb, (hE97).cell hg1y nb⟩) ?_
                    clear hK K
                    try simp only [Act.put, List.setIfInBounds_toArray, List.set_cons_zero, List.set_cons_succ]
                    have zc97 := hE97.cell hc1y nb
                    have zf97 := frz0 (off := 1) (hE97.keep hby1 nb)
                    refine wpAnyV_one (i := 19) (by kernel_rfl) (by kernel_rfl) (fun o ho K hK => ?_)
                    conv at ho => rhs; whnf
                    subst ho
                    go_simp
                    refine hK.out _ _ (Or.inr ⟨(hE97).cell hc1y nb, (hE97).cell hg0y nb, (hE97).cell hg1y nb⟩) ?_
                    clear hK K
                    try simp only [Act.put, List.setIfInBounds_toArray, List.set_cons_zero, List.set_cons_succ]
                    refine wpAnyV_one (i := 20) (by kernel_rfl) (by kernel_rfl) (fun o ho K hK => ?_)
                    conv at ho => rhs; whnf
                    subst ho
                    go_simp
                    refine hK.out _ _ (Or.inr ⟨(hE97).cell hc1y nb, (hE97).cell hg0y nb, (hE97).cell hg1y nb⟩) ?_
                    clear hK K
                    try simp only [Act.put, List.setIfInBounds_toArray, List.set_cons_zero, List.set_cons_succ]
                    refine wpAnyV_one (i := 21) (by kernel_rfl) (by kernel_rfl) (fun o ho K hK => ?_)
                    conv at ho => rhs; whnf
                    subst ho
                    go_simp
                    refine hK.out _ _ (Or.inl rfl) ?_
                    clear hK K
                    try simp only [Act.put, List.setIfInBounds_toArray, List.set_cons_zero, List.set_cons_succ]
                    refine wpAnyV_done (by kernel_rfl) ?_ _
                    clear zc97 zf97
                    go_wp2_with fail
                    go_ret
                    exact refAddW_end hxy hby1 hbw hgt (by rw [← hl97'.out]; exact refIns_ok L.length hsrt.out hlow.out hstop.out) hok.out hO97 hE97 hq97 hg97
                  · conv at ho => rhs; whnf
                    subst ho
                    go_simp
                    refine hK.out _ _ (Or.inr ⟨(((Ext.refl NoB _).alloc _).alloc _).cell hc1y nb, (((Ext.refl NoB _).alloc _).alloc _).cell hg0y nb, (((Ext.refl NoB _).alloc _).alloc _).cell hg1y nb⟩) ?_
                    clear hK K
                    try simp only [Act.put, List.setIfInBounds_toArray, List.set_cons_zero, List.set_cons_succ]
                    refine wpAnyV_one (i := 8) (by kernel_rfl) (by kernel_rfl) (fun o ho K hK => ?_)
                    conv at ho => rhs; whnf
                    subst ho
                    refine step_appendW wy 28 16 elem_tm timerE_len timerE_one (some (wy.heap.size)) (.slice (some ⟨wy.heap.size, 0, none⟩) 0 0) ([]) (L.take L.length) (.tmp 50) (.tmp 56) ((some ⟨b2, o2, none⟩)) (c) (b') (o) (L.length) q1'.out q2 q3'.out (ne_own (by omega)) rfl rfl rfl rfl (((Ext.refl NoB wy).drew.alloc _).alloc _) (SlO.made (b := wy.heap.size) (xs := ([] : List Tm)) (cs := #[]) (((Ext.refl NoB _).alloc _).keep (alloc_at wy.drew _) nb) rfl timerE_len (Nat.zero_le _)) ((SlR.keep hLy (((Ext.refl NoB wy).drew.alloc _).alloc _) nb1).take timerE_len (Nat.le_refl _)) (fun v85 w85 g85 hO85 hx85 hE85 hq85 => ?_)
                    try go_simp
                    refine hK.out _ _ (Or.inr ⟨(hE85).cell hc1y nb, (hE85).cell hg0y nb, (hE85).cell hg1y nb⟩) ?_
                    clear hK K
                    try simp only [Act.put, List.setIfInBounds_toArray, List.set_cons_zero, List.set_cons_succ]
                    refine wpAnyV_one (i := 11) (by kernel_rfl) (by kernel_rfl) (fun o ho K hK => ?_)
                    conv at ho => rhs; whnf
                    subst ho
                    refine step_appendW wy 28 16 elem_tm timerE_len timerE_one (g85) (v85) ([] ++ L.take L.length) ([(((due : Int), id) : Tm)]) (.tmp 57) (.tmp 59) (some ⟨wy.heap.size + 1, 0, none⟩) (1) (wy.heap.size + 1) (0) (1) q4 q5 rfl hq85 rfl rfl rfl rfl (hE85) (hO85) (SlR.one' (E := 33) (fr := (0, 0)) (cs := #[.int .u64 due, .int .i64 id]) (hx85.keep (alloc_at' _ _ _ (by simp)) (some_ne (by omega))) rfl) (fun v90 w90 g90 hO90 hx90 hE90 hq90 => ?_)
                    try go_simp
                    refine hK.out _ _ (Or.inr ⟨(hE90).cell hc1y nb, (hE90).cell hg0y nb, (hE90).cell hg1y nb⟩) ?_
                    clear hK K
                    try simp only [Act.put, List.setIfInBounds_toArray, List.set_cons_zero, List.set_cons_succ]
                    refine wpAnyV_one (i := 18) (by kernel_rfl) (by kernel_rfl) (fun o ho K hK => ?_)
                    conv at ho => rhs; whnf
                    subst ho
                    refine step_appendW wy 28 16 elem_tm timerE_len timerE_one (g90) (v90) ([] ++ L.take L.length ++ [(((due : Int), id) : Tm)]) (L.drop L.length) (.tmp 60) (.tmp 66) (some ⟨b2, o2 + L.length * 2, none⟩) (c - L.length) (b') (0) (0) q6 q7 q8'.out hq90 rfl rfl rfl rfl (hE90) (hO90) (slR_nil (hdn.out rfl) hcm) (fun v97 w97 g97 hO97 hx97 hE97 hq97 => ?_)
                    generalize hl97 : [] ++ L.take L.length ++ [(((due : Int), id) : Tm)] ++ L.drop L.length = L97 at hO97
                    have hl97' := Lib.hid hl97
                    clear hl97
                    obtain ⟨A97, c97, b97, o97, rfl, hr97, hg97⟩ := hO97.read
                    try go_simp
                    refine hK.out _ _ (Or.inr ⟨(hE97).cell hc1y nb, (hE97).cell hg0y nb, (hE97).cell hg1y nb⟩) ?_
                    clear hK K
                    try simp only [Act.put, List.setIfInBounds_toArray, List.set_cons_zero, List.set_cons_succ]
                    have zc97 := hE97.cell hc1y nb
                    have zf97 := frz0 (off := 1) (hE97.keep hby1 nb)
                    refine wpAnyV_one (i := 19) (by kernel_rfl) (by kernel_rfl) (fun o ho K hK => ?_)
                    conv at ho => rhs; whnf
                    subst ho
                    go_simp
                    refine hK.out _ _ (Or.inr ⟨(hE97).cell hc1y nb, (hE97).cell hg0y nb, (hE97).cell hg1y nb⟩) ?_
                    clear hK K
                    try simp only [Act.put, List.setIfInBounds_toArray, List.set_cons_zero, List.set_cons_succ]
                    refine wpAnyV_one (i := 20) (by kernel_rfl) (by kernel_rfl) (fun o ho K hK => ?_)
                    conv at ho => rhs; whnf
                    subst ho
                    go_simp
                    refine hK.out _ _ (Or.inr ⟨(hE97).cell hc1y nb, (hE97).cell hg0y nb, (hE97).cell hg1y nb⟩) ?_
                    clear hK K
                    try simp only [Act.put, List.setIfInBounds_toArray, List.set_cons_zero, List.set_cons_succ]
                    refine wpAnyV_one (i := 21) (by kernel_rfl) (by kernel_rfl) (fun o ho K hK => ?_)
                    conv at ho => rhs; whnf
                    subst ho
                    go_simp
                    refine hK.out _ _ (Or.inl rfl) ?_
                    clear hK K
                    try simp only [Act.put, List.setIfInBounds_toArray, List.set_cons_zero, List.set_cons_succ]
                    refine wpAnyV_done (by kernel_rfl) ?_ _
                    clear zc97 zf97
                    go_wp2_with fail
                    go_ret
                    exact refAddW_end hxy hby1 hbw hgt (by rw [← hl97'.out]; exact refIns_ok L.length hsrt.out hlow.out hstop.out) hok.out hO97 hE97 hq97 hg97
                · conv at ho => rhs; whnf
                  subst ho
                  go_simp
                  refine hK.out _ _ (Or.inr ⟨((Ext.refl NoB _).alloc _).cell hc1y nb, ((Ext.refl NoB _).alloc _).cell hg0y nb, ((Ext.refl NoB _).alloc _).cell hg1y nb⟩) ?_
                  clear hK K
                  try simp only [Act.put, List.setIfInBounds_toArray, List.set_cons_zero, List.set_cons_succ]
                  refine wpAnyV_one (i := 1) (by kernel_rfl) (by kernel_rfl) (fun o ho K hK => ?_)
                  conv at ho => rhs; whnf
                  subst ho
                  go_simp
                  refine hK.out _ _ (Or.inr ⟨(((Ext.refl NoB _).alloc _).alloc _).cell hc1y nb, (((Ext.refl NoB _).alloc _).alloc _).cell hg0y nb, (((Ext.refl NoB _).alloc _).alloc _).cell hg1y nb⟩) ?_
                  clear hK K
                  try simp only [Act.put, List.setIfInBounds_toArray, List.set_cons_zero, List.set_cons_succ]
                  refine wpAnyV_one (i := 8) (by kernel_rfl) (by kernel_rfl) (fun o ho K hK => ?_)
                  conv at ho => rhs; whnf
                  subst ho
                  refine step_appendW wy 28 16 elem_tm timerE_len timerE_one (some (wy.heap.size + 1)) (.slice (some ⟨wy.heap.size + 1, 0, none⟩) 0 0) ([]) (L.take L.length) (.tmp 50) (.tmp 56) ((some ⟨b2, o2, none⟩)) (c) (b') (o) (L.length) q1'.out q2 q3'.out (ne_own (by omega)) rfl rfl rfl rfl (((Ext.refl NoB wy).drew.alloc _).alloc _) (SlO.made (b := wy.heap.size + 1) (xs := ([] : List Tm)) (cs := #[]) (alloc_at' _ _ _ (by simp)) rfl timerE_len (Nat.zero_le _)) ((SlR.keep hLy (((Ext.refl NoB wy).drew.alloc _).alloc _) nb1).take timerE_len (Nat.le_refl _)) (fun v85 w85 g85 hO85 hx85 hE85 hq85 => ?_)
                  try go_simp
                  refine hK.out _ _ (Or.inr ⟨(hE85).cell hc1y nb, (hE85).cell hg0y nb, (hE85).cell hg1y nb⟩) ?_
                  clear hK K
                  try simp only [Act.put, List.setIfInBounds_toArray, List.set_cons_zero, List.set_cons_succ]
                  refine wpAnyV_one (i := 11) (by kernel_rfl) (by kernel_rfl) (fun o ho K hK => ?_)
                  conv at ho => rhs; whnf
                  subst ho
                  refine step_appendW wy 28 16 elem_tm timerE_len timerE_one (g85) (v85) ([] ++ L.take L.length) ([(((due : Int), id) : Tm)]) (.tmp 57) (.tmp 59) (some ⟨wy.heap.size, 0, none⟩) (1) (wy.heap.size) (0) (1) q4 q5 rfl hq85 rfl rfl rfl rfl (hE85) (hO85) (SlR.one' (E := 33) (fr := (0, 0)) (cs := #[.int .u64 due, .int .i64 id]) (hx85.keep (((Ext.refl NoB _).alloc _).keep (alloc_at wy.drew _) nb) (some_ne (by omega))) rfl) (fun v90 w90 g90 hO90 hx90 hE90 hq90 => ?_)
                  try go_simp
                  refine hK.out _ _ (Or.inr ⟨(hE90).cell hc1y nb, (hE90).cell hg0y nb, (hE90).cell hg1y nb⟩) ?_
                  clear hK K
                  try simp only [Act.put, List.setIfInBounds_toArray, List.set_cons_zero, List.set_cons_succ]
                  refine wpAnyV_one (i := 18) (by kernel_rfl) (by kernel_rfl) (fun o ho K hK => ?_)
                  conv at ho => rhs; whnf
                  subst ho
                  refine step_appendW wy 28 16 elem_tm timerE_len timerE_one (g90) (v90) ([] ++ L.take L.length ++ [(((due : Int), id) : Tm)]) (L.drop L.length) (.tmp 60) (.tmp 66) (some ⟨b2, o2 + L.length * 2, none⟩) (c - L.length) (b') (0) (0) q6 q7 q8'.out hq90 rfl rfl rfl rfl (hE90) (hO90) (slR_nil (hdn.out rfl) hcm) (fun v97 w97 g97 hO97 hx97 hE97 hq97 => ?_)
                  generalize hl97 : [] ++ L.take L.length ++ [(((due : Int), id) : Tm)] ++ L.drop L.length = L97 at hO97
                  have hl97' := Lib.hid hl97
                  clear hl97
                  obtain ⟨A97, c97, b97, o97, rfl, hr97, hg97⟩ := hO97.read
                  try go_simp
                  refine hK.out _ _ (Or.inr ⟨(hE97).cell hc1y nb, (hE97).cell hg0y nb, (hE97).cell hg1y nb⟩) ?_
                  clear hK K
                  try simp only [Act.put, List.setIfInBounds_toArray, List.set_cons_zero, List.set_cons_succ]
                  have zc97 := hE97.cell hc1y nb
                  have zf97 := frz0 (off := 1) (hE97.keep hby1 nb)
                  refine wpAnyV_one (i := 19) (by kernel_rfl) (by kernel_rfl) (fun o ho K hK => ?_)
                  conv at ho => rhs; whnf
                  subst ho
                  go_simp
                  refine hK.out _ _ (Or.inr ⟨(hE97).cell hc1y nb, (hE97).cell hg0y nb, (hE97).cell hg1y nb⟩) ?_
                  clear hK K
                  try simp only [Act.put, List.setIfInBounds_toArray, List.set_cons_zero, List.set_cons_succ]
                  refine wpAnyV_one (i := 20) (by kernel_rfl) (by kernel_rfl) (fun o ho K hK => ?_)
                  conv at ho => rhs; whnf
                  subst ho
                  go_simp
                  refine hK.out _ _ (Or.inr ⟨(hE97).cell hc1y nb, (hE97).cell hg0y nb, (hE97).cell hg1y nb⟩) ?_
                  clear hK K
                  try simp only [Act.put, List.setIfInBounds_toArray, List.set_cons_zero, List.set_cons_succ]
                  refine wpAnyV_one (i := 21) (by kernel_rfl) (by kernel_rfl) (fun o ho K hK => ?_)
                  conv at ho => rhs; whnf
                  subst ho
                  go_simp
                  refine hK.out _ _ (Or.inl rfl) ?_
                  clear hK K
                  try simp only [Act.put, List.setIfInBounds_toArray, List.set_cons_zero, List.set_cons_succ]
                  refine wpAnyV_done (by kernel_rfl) ?_ _
                  clear zc97 zf97
                  go_wp2_with fail
                  go_ret
                  exact refAddW_end hxy hby1 hbw hgt (by rw [← hl97'.out]; exact refIns_ok L.length hsrt.out hlow.out hstop.out) hok.out hO97 hE97 hq97 hg97

end Go.Proofs.Ytnobodgjabgikaa
