/- The wheel: a search by halves. -/
import Derived.Test.YtnobodgjabgikaaProg
import Derived.Test.YtnobodgjabgikaaWhA
namespace Go.Proofs.Ytnobodgjabgikaa
open Go.RowKit Go.Sort
set_option linter.unusedSimpArgs false
set_option linter.unusedVariables false

theorem gen_then {N : Act → World → Prop} {Q : Exit → Act → World → Prop} {e : Exit} {a : Act} {w : World} {n : Nat} (h : ∀ wz, Ext NoB w wz → Exit.then N Q e a wz) : Exit.then N Q e a (w.drewN n) :=
  h _ ((Ext.refl _ _).drewN _)

theorem compare_plain : Plainly Try.prog 28 := plainly_of Try.func28 (by kernel_rfl) (by kernel_rfl)

/-- Where t belongs in xs. -/
structure Spot (xs : List Tm) (t : Tm) (i : Nat) : Prop where
  le : i ≤ xs.length
  low : ∀ j (h : j < xs.length), j < i → tlt xs[j] t
  high : ∀ j (h : j < xs.length), i ≤ j → ¬ tlt xs[j] t

theorem tlt_trans {x y z : Tm} (h : tlt x y) (k : tlt y z) : tlt x z := by unfold tlt at *; omega
theorem tlt_irrefl (x : Tm) : ¬ tlt x x := by unfold tlt; omega
theorem tlt_tri {x y : Tm} (h : ¬ tlt x y) (k : ¬ tlt y x) : x = y := by
  unfold tlt at *
  exact Prod.ext (by omega) (by omega)

theorem compare_ret (x y : Tm) (w : World) : Calls Try.prog 28 #[.agg #[.int .u64 x.1, .int .i64 x.2], .agg #[.int .u64 y.1, .int .i64 y.2]] w fun e w' => ∃ v, e = .returned v ∧ (v = .int .i64 (tcmp x y) ∧ Ext NoB w w') :=
  (compare_ext x y w).mono fun e w' ⟨he, hx⟩ => ⟨_, he, rfl, hx⟩

def BsPost (xs : List Tm) (t : Tm) (w : World) (e : Ending) (w' : World) : Prop := ∃ (i : Nat) (f : Bool), e = .returned (.tuple #[.int .i64 i, .bool f]) ∧ Spot xs t i ∧ Ext NoB w w'
theorem bs_mk {xs : List Tm} {t : Tm} {w w' : World} {e : Ending} (i : Nat) (f : Bool) (he : e = .returned (.tuple #[.int .i64 i, .bool f])) (h : Spot xs t i) (x : Ext NoB w w') : BsPost xs t w e w' := ⟨i, f, he, h, x⟩

set_option maxRecDepth 100000 in
set_option maxHeartbeats 4000000 in
theorem bsearch_calls (A : Option Addr) (c b o : Nat) (xs : List Tm) (t : Tm) (w : World) (hx : SlR w 2 timerE A c b o xs) (hs : xs.Pairwise tlt) (hL : xs.length ≤ 1000000) :
    Calls Try.prog 30 #[.slice A xs.length c, .agg #[.int .u64 t.1, .int .i64 t.2], .func (.func 28) #[] #[]] w (BsPost xs t w) := by
  have hle := hx.le
  have hmx := hx.max
  unfold maxLen at hmx
  go_enter Try.func30, Try.ntmps30
  go_wp2_with fail
  have hal : Ext NoB w (w.alloc (.cells #[.int .u64 t.1, .int .i64 t.2] 33)) := (Ext.refl NoB w).alloc _
  have hbt : (w.alloc (.cells #[.int .u64 t.1, .int .i64 t.2] 33)).heap[w.heap.size]? = some (.cells #[.int .u64 t.1, .int .i64 t.2] 33 (0, 0)) := alloc_at w _
  go_loopw [9, 10] (fun i j wr => ∃ (p q : Nat), p ≤ q ∧ q ≤ xs.length ∧ i = .int .i64 p ∧ j = .int .i64 q ∧ Hid (∀ k (h : k < xs.length), k < p → tlt xs[k] t) ∧ Hid (∀ k (h : k < xs.length), q ≤ k → ¬ tlt xs[k] t) ∧ Ext NoB (w.alloc (.cells #[.int .u64 t.1, .int .i64 t.2] 33)) wr) (fun i j _ => (intOf j).toNat - (intOf i).toNat)
  case atStart => exact ⟨0, xs.length, Nat.zero_le _, Nat.le_refl _, rfl, rfl, fun k h hk => absurd hk (Nat.not_lt_zero _), fun k h hk => absurd h (by omega), Ext.refl _ _⟩
  case round =>
    obtain ⟨p, q, hpq, hq, rfl, rfl, hlow, hhigh, hext⟩ := hrel
    have hbt' := hext.keep hbt nb
    have g0 : wr.cell? ⟨w.heap.size, 0, none⟩ = some (.int .u64 t.1) := by rw [cell_of_row _ (w.heap.size) 0 _ _ (0, 0) hbt']; rfl
    have g1 : wr.cell? ⟨w.heap.size, 1, none⟩ = some (.int .i64 t.2) := by rw [cell_of_row _ (w.heap.size) 1 _ _ (0, 0) hbt']; rfl
    have hxw := hal.trans hext (fun _ _ h => h)
    clear hbt'
    by_cases hlt : p < q
    · have d1 : decide (p < q) = true := by simp [hlt]
      obtain rfl := hx.addr (by omega)
      obtain ⟨m, hm⟩ : ∃ m, m = (p + q) / 2 := ⟨_, rfl⟩
      have hm1 : p ≤ m := by omega
      have hm2 : m < q := by omega
      have hml : m < xs.length := by omega
      have e0 := hxw.cell (hx.cell timerE_len m xs[m] (List.getElem?_eq_getElem hml) 0 _ rfl) nb
      have e1 := hxw.cell (hx.cell timerE_len m xs[m] (List.getElem?_eq_getElem hml) 1 _ rfl) nb
      rw [Nat.add_zero] at e0
      have hup : Hid (tlt xs[m] t → ∀ k (h : k < xs.length), k < m + 1 → tlt xs[k] t) := fun hmt k h hk => by
        by_cases hkm : k = m
        · subst hkm; exact hmt
        · exact tlt_trans (List.pairwise_iff_getElem.1 hs k m h hml (by omega)) hmt
      have hdn : Hid (¬ tlt xs[m] t → ∀ k (h : k < xs.length), m ≤ k → ¬ tlt xs[k] t) := fun hmt k h hk => by
        by_cases hkm : k = m
        · subst hkm; exact hmt
        · exact fun hh => hmt (tlt_trans (List.pairwise_iff_getElem.1 hs m k hml h (by omega)) hh)
      generalize xs[m] = u at *
      have hme : ((p : Int) + q) / 2 = (m : Int) := by omega
      have hme' := Lib.hid hme
      have hq1 : (m : Int) < (xs.length : Int) := by omega
      have hq2 : (0 : Int) ≤ (m : Int) := by omega
      clear hme hm
      go_wp2_with fail
      simp only [hme'.out]
      by_cases hut : tlt u t
      · have t1 : decide (tcmp u t < 0) = true := decide_eq_true ((tcmp_lt u t).2 hut)
        go_region_held3 (fun w' => w'.cell? ⟨b, o + m * 2, none⟩ = some (.int .u64 u.1) ∧ w'.cell? ⟨b, o + m * 2 + 1, none⟩ = some (.int .i64 u.2) ∧ w'.cell? ⟨w.heap.size, 0, none⟩ = some (.int .u64 t.1) ∧ w'.cell? ⟨w.heap.size, 1, none⟩ = some (.int .i64 t.2)) (first
          | exact ⟨e0, e1, g0, g1⟩
          | exact ⟨hxc.cell e0 nb, hxc.cell e1 nb, hxc.cell g0 nb, hxc.cell g1 nb⟩) (first
          | (go_at_call 28; (with_reducible refine (compare_ext u t _).mono ?_); rintro e wc ⟨rfl, hxc⟩))
        go_wp2_with fail
        go_roundw
        case rel => exact ⟨m + 1, q, by omega, hq, by go_num, rfl, hup.out hut, hhigh, (hext.trans (Ext.refl NoB wr).drew (fun _ _ h => h)).trans hxc (fun _ _ h => h)⟩
        case measure => simp [intOf]; omega
      · have t1 : decide (tcmp u t < 0) = false := decide_eq_false (fun h => hut ((tcmp_lt u t).1 h))
        go_region_held3 (fun w' => w'.cell? ⟨b, o + m * 2, none⟩ = some (.int .u64 u.1) ∧ w'.cell? ⟨b, o + m * 2 + 1, none⟩ = some (.int .i64 u.2) ∧ w'.cell? ⟨w.heap.size, 0, none⟩ = some (.int .u64 t.1) ∧ w'.cell? ⟨w.heap.size, 1, none⟩ = some (.int .i64 t.2)) (first
          | exact ⟨e0, e1, g0, g1⟩
          | exact ⟨hxc.cell e0 nb, hxc.cell e1 nb, hxc.cell g0 nb, hxc.cell g1 nb⟩) (first
          | (go_at_call 28; (with_reducible refine (compare_ext u t _).mono ?_); rintro e wc ⟨rfl, hxc⟩))
        go_wp2_with fail
        go_roundw
        case rel => exact ⟨p, m, by omega, by omega, rfl, rfl, hlow, hdn.out hut, (hext.trans (Ext.refl NoB wr).drew (fun _ _ h => h)).trans hxc (fun _ _ h => h)⟩
        case measure => simp [intOf]; omega
    · have d1 : decide (p < q) = false := by simp; omega
      obtain rfl : p = q := by omega
      have hsp : Spot xs t p := ⟨hq, hlow.out, hhigh.out⟩
      by_cases hpl : p < xs.length
      · have d2 : decide (p < xs.length) = true := by simp [hpl]
        obtain rfl := hx.addr (by omega)
        have e0 := hxw.cell (hx.cell timerE_len p xs[p] (List.getElem?_eq_getElem hpl) 0 _ rfl) nb
        have e1 := hxw.cell (hx.cell timerE_len p xs[p] (List.getElem?_eq_getElem hpl) 1 _ rfl) nb
        rw [Nat.add_zero] at e0
        have hq1 : (p : Int) < (xs.length : Int) := by omega
        generalize xs[p] = u at *
        go_wp2_with fail
        go_region_held3 (fun w' => w'.cell? ⟨b, o + p * 2, none⟩ = some (.int .u64 u.1) ∧ w'.cell? ⟨b, o + p * 2 + 1, none⟩ = some (.int .i64 u.2) ∧ w'.cell? ⟨w.heap.size, 0, none⟩ = some (.int .u64 t.1) ∧ w'.cell? ⟨w.heap.size, 1, none⟩ = some (.int .i64 t.2)) (first
          | exact ⟨e0, e1, g0, g1⟩
          | exact ⟨hxc.cell e0 nb, hxc.cell e1 nb, hxc.cell g0 nb, hxc.cell g1 nb⟩) (first
          | (go_at_call 28; (with_reducible refine (compare_ext u t _).mono ?_); rintro e wc ⟨rfl, hxc⟩))
        go_wp2_with fail
        go_ret2
        exact bs_mk p _ rfl hsp ((hxw.trans (Ext.refl NoB wr).drew (fun _ _ h => h)).trans hxc (fun _ _ h => h))
      · have d2 : decide (p < xs.length) = false := by simp; omega
        go_wp2_with fail
        go_quiet (fail)
        refine gen_then ?_
        intro wz hz
        go_wp2_with fail
        go_ret2
        exact bs_mk p _ rfl hsp (hxw.trans hz (fun _ _ h => h))

end Go.Proofs.Ytnobodgjabgikaa
