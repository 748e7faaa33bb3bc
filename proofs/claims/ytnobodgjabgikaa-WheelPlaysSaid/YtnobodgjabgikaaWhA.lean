/- The wheel: how two timers stand; a search by halves. -/
import Derived.Test.YtnobodgjabgikaaProg
import Derived.Test.YtnobodgjabgikaaStep
import Derived.Deep.RegionHeld3
import Derived.Sort.Grow
namespace Go.Proofs.Ytnobodgjabgikaa
open Go.RowKit Go.Sort
set_option linter.unusedSimpArgs false
set_option linter.unusedVariables false

/-- A timer: when it is due, and its ID. -/
abbrev Tm := Int × Int
def timerE (t : Tm) : List Value := [.int .u64 t.1, .int .i64 t.2]
theorem timerE_len (t : Tm) : (timerE t).length = 2 := rfl
theorem timerE_one (t : Tm) : ∀ u ∈ timerE t, u.oneCell' = true := by
  intro u hu
  simp only [timerE, List.mem_cons, List.not_mem_nil, or_false] at hu
  rcases hu with rfl | rfl <;> rfl
theorem elem_tm : ElemT Try.prog 28 33 2 16 := elemT_of (z := .agg #[.int .u64 0, .int .i64 0]) Try.underlying28 (by kernel_rfl) rfl (by decide)
theorem intE_one (x : Int) : ∀ u ∈ intE x, u.oneCell' = true := by intro u hu; simp only [intE, List.mem_singleton] at hu; subst hu; rfl

def cmpI (x y : Int) : Int := if x < y then -1 else if y < x then 1 else 0
def orL (xs : List Int) : Int := (xs.find? (fun x => !decide (x = 0))).getD 0
def tcmp (x y : Tm) : Int := orL [cmpI x.1 y.1, cmpI x.2 y.2]
def tlt (x y : Tm) : Prop := x.1 < y.1 ∨ (x.1 = y.1 ∧ x.2 < y.2)
instance (x y : Tm) : Decidable (tlt x y) := by unfold tlt; exact inferInstance

theorem tcmp_lt (x y : Tm) : tcmp x y < 0 ↔ tlt x y := by
  unfold tcmp orL cmpI tlt
  by_cases h1 : x.1 < y.1
  · simp [h1]
  · by_cases h2 : y.1 < x.1
    · simp [h1, h2]; omega
    · have : x.1 = y.1 := by omega
      by_cases h3 : x.2 < y.2
      · simp [this, h3]
      · by_cases h4 : y.2 < x.2 <;> simp [this, h3, h4]

set_option maxHeartbeats 1000000 in
theorem nan_u64 (x : Int) (w : World) : Calls Try.prog 55 #[.int .u64 x] w fun e w' => e = .returned (.bool false) ∧ w = w' := by
  go_enter Try.func55, Try.ntmps55
  go_wp2
  go_ret
  exact ⟨rfl, rfl⟩
set_option maxHeartbeats 1000000 in
theorem nan_int (x : Int) (w : World) : Calls Try.prog 56 #[.int .i64 x] w fun e w' => e = .returned (.bool false) ∧ w = w' := by
  go_enter Try.func56, Try.ntmps56
  go_wp2
  go_ret
  exact ⟨rfl, rfl⟩

set_option maxHeartbeats 1000000 in
theorem cmp_u64 (x y : Int) (w : World) : Calls Try.prog 41 #[.int .u64 x, .int .u64 y] w fun e w' => e = .returned (.int .i64 (cmpI x y)) ∧ w = w' := by
  by_cases h1 : x < y
  · have hv : Hid (cmpI x y = -1) := by show _ = _; unfold cmpI; rw [if_pos h1]
    go_enter Try.func41, Try.ntmps41
    go_wp2_with fail
    with_reducible refine (nan_u64 _ _).mono ?_
    rintro e w' ⟨rfl, rfl⟩
    go_wp2_with fail
    with_reducible refine (nan_u64 _ _).mono ?_
    rintro e w' ⟨rfl, rfl⟩
    go_wp2_with fail
    go_ret
    exact ⟨by rw [hv.out]; rfl, rfl⟩
  · by_cases h2 : y < x
    · have hv : Hid (cmpI x y = 1) := by show _ = _; unfold cmpI; rw [if_neg h1, if_pos h2]
      have h3 : decide (x < y) = false := by simp; omega
      have h4 : decide (y < x) = true := by simp [h2]
      go_enter Try.func41, Try.ntmps41
      go_wp2_with fail
      with_reducible refine (nan_u64 _ _).mono ?_
      rintro e w' ⟨rfl, rfl⟩
      go_wp2_with fail
      with_reducible refine (nan_u64 _ _).mono ?_
      rintro e w' ⟨rfl, rfl⟩
      go_wp2_with fail
      go_ret
      exact ⟨by rw [hv.out]; rfl, rfl⟩
    · have hv : Hid (cmpI x y = 0) := by show _ = _; unfold cmpI; rw [if_neg h1, if_neg h2]
      have h3 : decide (x < y) = false := by simp; omega
      have h4 : decide (y < x) = false := by simp; omega
      go_enter Try.func41, Try.ntmps41
      go_wp2_with fail
      with_reducible refine (nan_u64 _ _).mono ?_
      rintro e w' ⟨rfl, rfl⟩
      go_wp2_with fail
      with_reducible refine (nan_u64 _ _).mono ?_
      rintro e w' ⟨rfl, rfl⟩
      go_wp2_with fail
      go_ret
      exact ⟨by rw [hv.out]; rfl, rfl⟩

set_option maxHeartbeats 1000000 in
theorem cmp_int (x y : Int) (w : World) : Calls Try.prog 42 #[.int .i64 x, .int .i64 y] w fun e w' => e = .returned (.int .i64 (cmpI x y)) ∧ w = w' := by
  by_cases h1 : x < y
  · have hv : Hid (cmpI x y = -1) := by show _ = _; unfold cmpI; rw [if_pos h1]
    go_enter Try.func42, Try.ntmps42
    go_wp2_with fail
    with_reducible refine (nan_int _ _).mono ?_
    rintro e w' ⟨rfl, rfl⟩
    go_wp2_with fail
    with_reducible refine (nan_int _ _).mono ?_
    rintro e w' ⟨rfl, rfl⟩
    go_wp2_with fail
    go_ret
    exact ⟨by rw [hv.out]; rfl, rfl⟩
  · by_cases h2 : y < x
    · have hv : Hid (cmpI x y = 1) := by show _ = _; unfold cmpI; rw [if_neg h1, if_pos h2]
      have h3 : decide (x < y) = false := by simp; omega
      have h4 : decide (y < x) = true := by simp [h2]
      go_enter Try.func42, Try.ntmps42
      go_wp2_with fail
      with_reducible refine (nan_int _ _).mono ?_
      rintro e w' ⟨rfl, rfl⟩
      go_wp2_with fail
      with_reducible refine (nan_int _ _).mono ?_
      rintro e w' ⟨rfl, rfl⟩
      go_wp2_with fail
      go_ret
      exact ⟨by rw [hv.out]; rfl, rfl⟩
    · have hv : Hid (cmpI x y = 0) := by show _ = _; unfold cmpI; rw [if_neg h1, if_neg h2]
      have h3 : decide (x < y) = false := by simp; omega
      have h4 : decide (y < x) = false := by simp; omega
      go_enter Try.func42, Try.ntmps42
      go_wp2_with fail
      with_reducible refine (nan_int _ _).mono ?_
      rintro e w' ⟨rfl, rfl⟩
      go_wp2_with fail
      with_reducible refine (nan_int _ _).mono ?_
      rintro e w' ⟨rfl, rfl⟩
      go_wp2_with fail
      go_ret
      exact ⟨by rw [hv.out]; rfl, rfl⟩

set_option maxHeartbeats 1000000 in
theorem or_calls (A : Option Addr) (c b o : Nat) (xs : List Int) (w : World) (hx : SlR w 1 intE A c b o xs) : Calls Try.prog 40 #[.slice A xs.length c] w fun e w' => e = .returned (.int .i64 (orL xs)) ∧ w = w' := by
  have hle := hx.le
  have hmx := hx.max
  unfold maxLen at hmx
  go_enter Try.func40, Try.ntmps40
  go_wp2_with fail
  go_loop [8] (fun i => ∃ k : Nat, k ≤ xs.length ∧ i = .int .i64 k ∧ Hid ((xs.take k).find? (fun x => !decide (x = 0)) = none)) (fun i => xs.length - (intOf i).toNat)
  case atStart => exact ⟨0, Nat.zero_le _, rfl, rfl⟩
  case round =>
    obtain ⟨k, hk, rfl, hno⟩ := hrel
    by_cases hlt : k < xs.length
    · obtain rfl := hx.addr (by omega)
      have hck := hx.intCell k hlt
      have htk := Lib.hid (List.take_succ_eq_append_getElem hlt)
      have hgl := Lib.hid (List.take_append_drop k xs)
      have hdr := Lib.hid (List.drop_eq_getElem_cons hlt)
      generalize xs[k] = u at *
      by_cases hu : u = 0
      · have t1 : (u != 0) = false := by simp [hu]
        have hu' := Lib.hid hu
        clear hu
        go_wp2_with fail
        go_round
        case rel => exact ⟨k + 1, by omega, by go_num, by show _ = _; rw [htk.out, List.find?_append, hno.out]; simp [hu'.out]⟩
        case measure => simp [intOf]; omega
      · have t1 : (u != 0) = true := by simp [hu]
        have hv : Hid (orL xs = u) := by
          show _ = _
          unfold orL
          rw [← hgl.out, List.find?_append, hno.out, hdr.out]
          simp [List.find?_cons, hu]
        clear hu
        go_wp2_with fail
        go_ret
        exact ⟨by rw [hv.out]; rfl, rfl⟩
    · have hv : Hid (orL xs = 0) := by
        show _ = _
        unfold orL
        have := hno.out
        rw [List.take_of_length_le (by omega)] at this
        rw [this]; rfl
      go_wp2_with fail
      go_ret
      exact ⟨by rw [hv.out]; rfl, rfl⟩

theorem slO2 {w : World} {b : Nat} (x y : Int) (h : w.heap[b]? = some (.cells #[.int .i64 x, .int .i64 y] 3 (0, 0))) : SlR w 1 intE (some ⟨b, 0, none⟩) 2 b 0 [x, y] :=
  ⟨fun _ => rfl, Nat.le_refl _, by simp [maxLen], by
    intro j u hu
    rw [cell_of_row _ b (0 + j) _ _ (0, 0) h]
    simpa [intE] using hu⟩

theorem or2_calls (A : Option Addr) (c b o : Nat) (x y : Int) (w : World) (hx : SlR w 1 intE A c b o [x, y]) : Calls Try.prog 40 #[.slice A 2 c] w fun e w' => e = .returned (.int .i64 (orL [x, y])) ∧ w = w' := or_calls A c b o [x, y] w hx

theorem grow3 (w : World) (a b c : Obj) : (((w.alloc a).alloc b).alloc c).drew = grow (w.drewN 1) (#[a] ++ #[b] ++ #[c]) := by
  rw [alloc_eq_grow, alloc_eq_grow, alloc_eq_grow, ← grow_grow, ← grow_grow]
  rfl

set_option maxRecDepth 4000 in
set_option maxHeartbeats 2000000 in
theorem compare_calls (x y : Tm) (w : World) : Calls Try.prog 28 #[.agg #[.int .u64 x.1, .int .i64 x.2], .agg #[.int .u64 y.1, .int .i64 y.2]] w fun e w' => e = .returned (.int .i64 (tcmp x y)) ∧ ∃ q os', w' = grow (w.drewN q) os' := by
  have hv : Hid (tcmp x y = orL [cmpI x.1 y.1, cmpI x.2 y.2]) := rfl
  generalize tcmp x y = r at *
  go_enter Try.func28, Try.ntmps28
  go_wp2_with fail
  have f0 : ((w.alloc (.cells #[.int .u64 x.1, .int .i64 x.2] 33)).alloc (.cells #[.int .u64 y.1, .int .i64 y.2] 33)).heap[w.heap.size]? = some (.cells #[.int .u64 x.1, .int .i64 x.2] 33 (0, 0)) := ((Ext.refl NoB _).alloc _).keep (alloc_at w _) nb
  have f1 : ((w.alloc (.cells #[.int .u64 x.1, .int .i64 x.2] 33)).alloc (.cells #[.int .u64 y.1, .int .i64 y.2] 33)).heap[w.heap.size + 1]? = some (.cells #[.int .u64 y.1, .int .i64 y.2] 33 (0, 0)) := alloc_at' _ _ _ (by simp)
  have c0 : ((w.alloc (.cells #[.int .u64 x.1, .int .i64 x.2] 33)).alloc (.cells #[.int .u64 y.1, .int .i64 y.2] 33)).cell? ⟨w.heap.size, 0, none⟩ = some (.int .u64 x.1) := by rw [cell_of_row _ (w.heap.size) 0 _ _ (0, 0) f0]; rfl
  have c1 : ((w.alloc (.cells #[.int .u64 x.1, .int .i64 x.2] 33)).alloc (.cells #[.int .u64 y.1, .int .i64 y.2] 33)).cell? ⟨w.heap.size, 1, none⟩ = some (.int .i64 x.2) := by rw [cell_of_row _ (w.heap.size) 1 _ _ (0, 0) f0]; rfl
  have c2 : ((w.alloc (.cells #[.int .u64 x.1, .int .i64 x.2] 33)).alloc (.cells #[.int .u64 y.1, .int .i64 y.2] 33)).cell? ⟨w.heap.size + 1, 0, none⟩ = some (.int .u64 y.1) := by rw [cell_of_row _ (w.heap.size + 1) 0 _ _ (0, 0) f1]; rfl
  have c3 : ((w.alloc (.cells #[.int .u64 x.1, .int .i64 x.2] 33)).alloc (.cells #[.int .u64 y.1, .int .i64 y.2] 33)).cell? ⟨w.heap.size + 1, 1, none⟩ = some (.int .i64 y.2) := by rw [cell_of_row _ (w.heap.size + 1) 1 _ _ (0, 0) f1]; rfl
  have hsl : SlR (((w.alloc (.cells #[.int .u64 x.1, .int .i64 x.2] 33)).alloc (.cells #[.int .u64 y.1, .int .i64 y.2] 33)).alloc (.cells #[.int .i64 (cmpI x.1 y.1), .int .i64 (cmpI x.2 y.2)] 3)).drew 1 intE (some ⟨w.heap.size + 1 + 1, 0, none⟩) 2 (w.heap.size + 1 + 1) 0 [cmpI x.1 y.1, cmpI x.2 y.2] := slO2 _ _ (alloc_at' _ _ _ (by simp))
  go_region_held3 (fun w' => w'.cell? ⟨w.heap.size, 0, none⟩ = some (.int .u64 x.1) ∧ w'.cell? ⟨w.heap.size, 1, none⟩ = some (.int .i64 x.2) ∧ w'.cell? ⟨w.heap.size + 1, 0, none⟩ = some (.int .u64 y.1) ∧ w'.cell? ⟨w.heap.size + 1, 1, none⟩ = some (.int .i64 y.2)) (first
    | exact ⟨c0, c1, c2, c3⟩
    | (go_split_ands; refine ⟨Ext.cell ((Ext.refl NoB _).alloc _) (by assumption) nb, Ext.cell ((Ext.refl NoB _).alloc _) (by assumption) nb, Ext.cell ((Ext.refl NoB _).alloc _) (by assumption) nb, Ext.cell ((Ext.refl NoB _).alloc _) (by assumption) nb⟩)) (first
    | (go_at_call 41; (with_reducible refine (cmp_u64 x.1 y.1 _).mono ?_); rintro e u0 ⟨rfl, rfl⟩)
    | (go_at_call 42; (with_reducible refine (cmp_int x.2 y.2 _).mono ?_); rintro e u0 ⟨rfl, rfl⟩)
    | (go_at_call 40; (with_reducible refine (or2_calls (some ⟨w.heap.size + 1 + 1, 0, none⟩) 2 (w.heap.size + 1 + 1) 0 (cmpI x.1 y.1) (cmpI x.2 y.2) _ hsl).mono ?_); rintro e u0 ⟨rfl, rfl⟩))
  go_wp2_with fail
  go_ret
  exact ⟨by rw [hv.out]; rfl, 1, _, grow3 _ _ _ _⟩

/-- As a world that has grown. -/
theorem ext_grow (w : World) (q : Nat) (os : Array Obj) : Ext NoB w (grow (w.drewN q) os) :=
  ⟨rfl, rfl, rfl, by simp [grow, World.drewN], fun k hk _ => by simp [grow, World.drewN, Array.getElem?_append, hk]⟩
theorem compare_ext (x y : Tm) (w : World) : Calls Try.prog 28 #[.agg #[.int .u64 x.1, .int .i64 x.2], .agg #[.int .u64 y.1, .int .i64 y.2]] w fun e w' => e = .returned (.int .i64 (tcmp x y)) ∧ Ext NoB w w' :=
  (compare_calls x y w).mono fun e w' ⟨he, q, os, hw⟩ => ⟨he, by rw [hw]; exact ext_grow w q os⟩

end Go.Proofs.Ytnobodgjabgikaa
