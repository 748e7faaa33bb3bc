/- The reference's wheel: less, Due, Advance, SameTimers. -/
import Derived.Test.YtnobodgjabgikaaProg
import Derived.Test.YtnobodgjabgikaaWhX
import Derived.Test.YtnobodgjabgikaaStep
namespace Go.Proofs.Ytnobodgjabgikaa
open Go.RowKit Go.Sort
set_option linter.unusedSimpArgs false
set_option linter.unusedVariables false

/-- Block b is the reference's wheel; its array lies in block g. -/
def RefW (w : World) (b now : Nat) (L : List Tm) (g : Option Nat) : Prop :=
  ∃ (A : Option Addr) (c b' o : Nat), w.heap[b]? = some (.cells #[.int .u64 now, .slice A L.length c] 48 (0, 0)) ∧ SlR w 2 timerE A c b' o L ∧ (0 < L.length → g = some b') ∧ g ≠ some b ∧ Can A c ∧ (∀ q, g = some q → q < w.heap.size)
theorem RefW.keep {F : Nat → Prop} {w w' : World} {b now : Nat} {L : List Tm} {g : Option Nat} (h : RefW w b now L g) (x : Ext F w w') (h1 : ¬ F b) (h2 : ∀ q, g = some q → ¬ F q) : RefW w' b now L g := by
  obtain ⟨A, c, b', o, e1, e2, e3, e4, e5, e6⟩ := h
  exact ⟨A, c, b', o, x.keep e1 h1, e2.keep x (fun hp => h2 b' (e3 hp)), e3, e4, e5, fun q hq => x.lt (e6 q hq)⟩
theorem RefW.lt {w : World} {b now : Nat} {L : List Tm} {g : Option Nat} (h : RefW w b now L g) : b < w.heap.size := by
  obtain ⟨A, c, b', o, e1, _⟩ := h
  exact lt_of_block e1

set_option maxRecDepth 4000 in
set_option maxHeartbeats 2000000 in
theorem less_calls (x y : Tm) (w : World) : Calls Try.prog 33 #[.agg #[.int .u64 x.1, .int .i64 x.2], .agg #[.int .u64 y.1, .int .i64 y.2]] w fun e w' => e = .returned (.bool (decide (tlt x y))) ∧ Ext NoB w w' := by
  obtain ⟨xd, xi⟩ := x
  obtain ⟨yd, yi⟩ := y
  have f0 : ((w.alloc (.cells #[.int .u64 xd, .int .i64 xi] 33)).alloc (.cells #[.int .u64 yd, .int .i64 yi] 33)).heap[w.heap.size]? = some (.cells #[.int .u64 xd, .int .i64 xi] 33 (0, 0)) := ((Ext.refl NoB _).alloc _).keep (alloc_at w _) nb
  have f1 : ((w.alloc (.cells #[.int .u64 xd, .int .i64 xi] 33)).alloc (.cells #[.int .u64 yd, .int .i64 yi] 33)).heap[w.heap.size + 1]? = some (.cells #[.int .u64 yd, .int .i64 yi] 33 (0, 0)) := alloc_at' _ _ _ (by simp)
  have c0 : ((w.alloc (.cells #[.int .u64 xd, .int .i64 xi] 33)).alloc (.cells #[.int .u64 yd, .int .i64 yi] 33)).cell? ⟨w.heap.size, 0, none⟩ = some (.int .u64 xd) := by rw [cell_of_row _ (w.heap.size) 0 _ _ (0, 0) f0]; rfl
  have c1 : ((w.alloc (.cells #[.int .u64 xd, .int .i64 xi] 33)).alloc (.cells #[.int .u64 yd, .int .i64 yi] 33)).cell? ⟨w.heap.size, 1, none⟩ = some (.int .i64 xi) := by rw [cell_of_row _ (w.heap.size) 1 _ _ (0, 0) f0]; rfl
  have c2 : ((w.alloc (.cells #[.int .u64 xd, .int .i64 xi] 33)).alloc (.cells #[.int .u64 yd, .int .i64 yi] 33)).cell? ⟨w.heap.size + 1, 0, none⟩ = some (.int .u64 yd) := by rw [cell_of_row _ (w.heap.size + 1) 0 _ _ (0, 0) f1]; rfl
  have c3 : ((w.alloc (.cells #[.int .u64 xd, .int .i64 xi] 33)).alloc (.cells #[.int .u64 yd, .int .i64 yi] 33)).cell? ⟨w.heap.size + 1, 1, none⟩ = some (.int .i64 yi) := by rw [cell_of_row _ (w.heap.size + 1) 1 _ _ (0, 0) f1]; rfl
  clear f0 f1
  have hx : Ext NoB w ((w.alloc (.cells #[.int .u64 xd, .int .i64 xi] 33)).alloc (.cells #[.int .u64 yd, .int .i64 yi] 33)) := ((Ext.refl NoB w).alloc _).alloc _
  by_cases h1 : xd < yd
  · have hv : Hid (decide (tlt (xd, xi) (yd, yi)) = true) := by show _ = _; simp [tlt, h1]
    have t1 : decide (xd < yd) = true := by simp [h1]
    go_enter Try.func33, Try.ntmps33
    go_wp2_with fail
    go_ret
    exact ⟨by rw [hv.out]; rfl, hx⟩
  · have t1 : decide (xd < yd) = false := by simp [h1]
    by_cases h2 : xd = yd
    · subst h2
      by_cases h3 : xi < yi
      · have hv : Hid (decide (tlt (xd, xi) (xd, yi)) = true) := by show _ = _; simp [tlt, h3]
        have t2 : decide (xi < yi) = true := by simp [h3]
        go_enter Try.func33, Try.ntmps33
        go_wp2_with fail
        go_ret
        exact ⟨by rw [hv.out]; rfl, hx⟩
      · have hv : Hid (decide (tlt (xd, xi) (xd, yi)) = false) := by show _ = _; simp [tlt, h3]
        have t2 : decide (xi < yi) = false := by simp [h3]
        go_enter Try.func33, Try.ntmps33
        go_wp2_with fail
        go_ret
        exact ⟨by rw [hv.out]; rfl, hx⟩
    · have hv : Hid (decide (tlt (xd, xi) (yd, yi)) = false) := by show _ = _; simp [tlt, h1, h2]
      have t2 : (xd == yd) = false := by simp [h2]
      go_enter Try.func33, Try.ntmps33
      go_wp2_with fail
      go_ret
      exact ⟨by rw [hv.out]; rfl, hx⟩

/-- When it is due. -/
def refD (L : List Tm) (id : Int) : Option Int := (L.find? (fun t => t.2 = id)).map (·.1)
set_option maxHeartbeats 2000000 in
theorem refDue_calls (b now : Nat) (L : List Tm) (g : Option Nat) (id : Int) (w : World) (h : RefW w b now L g) :
    Calls Try.prog 32 #[.pointer (some ⟨b, 0, none⟩), .int .i64 id] w fun e w' => e = .returned (.tuple #[.int .u64 ((refD L id).getD 0), .bool (refD L id).isSome]) ∧ w = w' := by
  obtain ⟨A, c, b', o, h1, h2, h3, h4, h5, h6⟩ := h
  have hle := h2.le
  have hmx := h2.max
  unfold maxLen at hmx
  have hc1 : w.cell? ⟨b, 1, none⟩ = some (.slice A L.length c) := by rw [cell_of_row w b 1 _ _ (0, 0) h1]; rfl
  go_enter Try.func32, Try.ntmps32
  go_wp2_with fail
  go_loop [6] (fun i => ∃ k : Nat, k ≤ L.length ∧ i = .int .i64 k ∧ Hid ((L.take k).find? (fun t => t.2 = id) = none)) (fun i => L.length - (intOf i).toNat)
  case atStart => exact ⟨0, Nat.zero_le _, rfl, rfl⟩
  case round =>
    obtain ⟨k, hk, rfl, hno⟩ := hrel
    by_cases hlt : k < L.length
    · have t0 : decide (k < L.length) = true := by simp [hlt]
      obtain rfl := h2.addr (by omega)
      have e0 := h2.cell timerE_len k L[k] (List.getElem?_eq_getElem hlt) 0 _ rfl
      have e1 := h2.cell timerE_len k L[k] (List.getElem?_eq_getElem hlt) 1 _ rfl
      rw [Nat.add_zero] at e0
      have htk := Lib.hid (List.take_succ_eq_append_getElem hlt)
      have hgl := Lib.hid (List.take_append_drop k L)
      have hdr := Lib.hid (List.drop_eq_getElem_cons hlt)
      generalize L[k] = u at *
      obtain ⟨ud, ui⟩ := u
      dsimp only at e0 e1
      by_cases hid : ui = id
      · subst hid
        have hres : Hid (refD L ui = some ud) := by
          show _ = _
          unfold refD
          rw [← hgl.out, List.find?_append, hno.out, hdr.out]
          simp [List.find?_cons]
        go_wp2_with fail
        go_ret2
        exact ⟨by rw [hres.out]; rfl, rfl⟩
      · have t1 : (ui == id) = false := by simp [hid]
        go_wp2_with fail
        go_round
        case rel => exact ⟨k + 1, by omega, by go_num, by show _ = _; rw [htk.out, List.find?_append, hno.out]; simp [List.find?_cons, hid]⟩
        case measure => simp [intOf]; omega
    · have t0 : decide (k < L.length) = false := by simp [hlt]
      have hres : Hid (refD L id = none) := by
        show _ = _
        unfold refD
        have := hno.out
        rw [List.take_of_length_le (by omega)] at this
        rw [this]; rfl
      go_wp2_with fail
      go_ret2
      exact ⟨by rw [hres.out]; rfl, rfl⟩

set_option maxHeartbeats 2000000 in
theorem sameT_calls (A1 : Option Addr) (c1 b1 o1 : Nat) (xs : List Tm) (A2 : Option Addr) (c2 b2 o2 : Nat) (ys : List Tm) (w : World) (h1 : SlR w 2 timerE A1 c1 b1 o1 xs) (h2 : SlR w 2 timerE A2 c2 b2 o2 ys) (he : xs = ys) :
    Calls Try.prog 19 #[.slice A1 xs.length c1, .slice A2 ys.length c2] w fun e w' => e = .returned (.bool true) ∧ Ext NoB w w' := by
  subst he
  have hl1 := h1.le
  have hm1 := h1.max
  have hl2 := h2.le
  have hm2 := h2.max
  unfold maxLen at hm1 hm2
  go_enter Try.func19, Try.ntmps19
  go_wp2_with fail
  go_loopw [5] (fun i wz => ∃ t : Nat, t ≤ xs.length ∧ i = .int .i64 t ∧ Ext NoB w wz) (fun i _ => xs.length - (intOf i).toNat)
  case atStart => exact ⟨0, Nat.zero_le _, rfl, Ext.refl _ _⟩
  case round =>
    obtain ⟨t, htl, rfl, hxz⟩ := hrel
    by_cases htt : t < xs.length
    · have t2 : decide (t < xs.length) = true := by simp [htt]
      obtain rfl := h1.addr (by omega)
      obtain rfl := h2.addr (by omega)
      have e60 := (h1.keep hxz nb1).cell timerE_len t xs[t] (List.getElem?_eq_getElem htt) 0 _ rfl
      have e61 := (h1.keep hxz nb1).cell timerE_len t xs[t] (List.getElem?_eq_getElem htt) 1 _ rfl
      have e70 := (h2.keep hxz nb1).cell timerE_len t xs[t] (List.getElem?_eq_getElem htt) 0 _ rfl
      have e71 := (h2.keep hxz nb1).cell timerE_len t xs[t] (List.getElem?_eq_getElem htt) 1 _ rfl
      rw [Nat.add_zero] at e60 e70
      generalize xs[t] = u at *
      obtain ⟨ud, ui⟩ := u
      dsimp only at e60 e61 e70 e71
      go_wp2_with fail
      go_quiet (fail)
      go_wp2_with fail
      go_roundw
      case rel => exact ⟨t + 1, by omega, by go_num, hxz.drewN _⟩
      case measure => simp [intOf]; omega
    · have t2 : decide (t < xs.length) = false := by simp [htt]
      go_wp2_with fail
      go_ret
      exact ⟨rfl, hxz⟩

end Go.Proofs.Ytnobodgjabgikaa
