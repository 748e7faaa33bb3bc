/- The bodies: the reference's SameBody; texts that are refused. -/
import Derived.Test.YtgiimmiandhkhaaGreatDoorProg
import Derived.Test.YtgiimmiandhkhaaGreatDoorBoS
import Derived.BigQuiet
namespace Go.Proofs.YtgiimmiandhkhaaGreatDoor
open Go.RowKit
set_option linter.unusedSimpArgs false
set_option linter.unusedVariables false

set_option maxHeartbeats 4000000 in
theorem sameR_calls (A1 : Option Addr) (c1 b1 o1 : Nat) (xs : List BOp) (A2 : Option Addr) (c2 b2 o2 : Nat) (ys : List BOp) (w : World) (h1 : SlR w 3 opB A1 c1 b1 o1 xs) (h2 : SlR w 3 opB A2 c2 b2 o2 ys) :
    Calls Tryz.prog 19 #[.slice A1 xs.length c1, .slice A2 ys.length c2] w fun e w' => e = .returned (.bool (decide (xs = ys))) ∧ Ext NoB w w' := by
  have hl1 := h1.le
  have hm1 := h1.max
  have hl2 := h2.le
  have hm2 := h2.max
  unfold maxLen at hm1 hm2
  by_cases hlen : xs.length = ys.length
  · have t0 : ((xs.length : Int) != (ys.length : Int)) = false := by simp; omega
    have hlen' := Lib.hid hlen
    clear hlen
    go_enter Tryz.func19, Tryz.ntmps19
    go_wp2_with fail
    go_loopw [5] (fun i wz => ∃ t : Nat, t ≤ xs.length ∧ i = .int .i64 t ∧ Hid (∀ j (h : j < xs.length) (h' : j < ys.length), j < t → xs[j] = ys[j]) ∧ Ext NoB w wz) (fun i _ => xs.length - (intOf i).toNat)
    case atStart => exact ⟨0, Nat.zero_le _, rfl, fun j _ _ h => absurd h (Nat.not_lt_zero _), Ext.refl _ _⟩
    case round =>
      obtain ⟨t, htl, rfl, hno, hxz⟩ := hrel
      by_cases htt : t < xs.length
      · have htt2 : t < ys.length := by have := hlen'.out; omega
        have t2 : decide (t < xs.length) = true := by simp [htt]
        obtain rfl := h1.addr (by omega)
        obtain rfl := h2.addr (by omega)
        have e60 := (h1.keep hxz nb1).cell opB_len t xs[t] (List.getElem?_eq_getElem htt) 0 _ rfl
        have e61 := (h1.keep hxz nb1).cell opB_len t xs[t] (List.getElem?_eq_getElem htt) 1 _ rfl
        have e62 := (h1.keep hxz nb1).cell opB_len t xs[t] (List.getElem?_eq_getElem htt) 2 _ rfl
        have e70 := (h2.keep hxz nb1).cell opB_len t ys[t] (List.getElem?_eq_getElem htt2) 0 _ rfl
        have e71 := (h2.keep hxz nb1).cell opB_len t ys[t] (List.getElem?_eq_getElem htt2) 1 _ rfl
        have e72 := (h2.keep hxz nb1).cell opB_len t ys[t] (List.getElem?_eq_getElem htt2) 2 _ rfl
        rw [Nat.add_zero] at e60 e70
        have hstep : Hid (xs[t] = ys[t] → ∀ j (h : j < xs.length) (h' : j < ys.length), j < t + 1 → xs[j] = ys[j]) := fun he j h h' hj => by
          by_cases hjt : j = t
          · subst hjt; exact he
          · exact hno.out j h h' (by omega)
        have hbad : Hid (xs[t] ≠ ys[t] → decide (xs = ys) = false) := fun hne => decide_eq_false (fun e => hne (by subst e; rfl))
        generalize xs[t] = u at *
        generalize ys[t] = v at *
        obtain ⟨uk, ua, ub⟩ := u
        obtain ⟨vk, va, vb⟩ := v
        dsimp only at e60 e61 e62 e70 e71 e72
        by_cases q1 : uk = vk
        · subst q1
          by_cases q2 : ua = va
          · subst q2
            by_cases q3 : ub = vb
            · subst q3
              go_wp2_with fail
              go_quiet (fail)
              go_wp2_with fail
              go_roundw
              case rel => exact ⟨t + 1, by omega, by go_num, hstep.out (by simp), hxz.drewN _⟩
              case measure => simp [intOf]; omega
            · have hf := Lib.hid (hbad.out (fun e => q3 (by injection e)))
              have p3 : (ub == vb) = false := by simp [q3]
              go_wp2_with fail
              go_quiet (fail)
              go_wp2_with fail
              go_ret
              exact ⟨by rw [hf.out]; rfl, hxz.drewN _⟩
          · have hf := Lib.hid (hbad.out (fun e => q2 (by injection e)))
            have p2 : (ua == va) = false := by simp [q2]
            go_wp2_with fail
            go_quiet (fail)
            go_wp2_with fail
            go_ret
            exact ⟨by rw [hf.out]; rfl, hxz.drewN _⟩
        · have hf := Lib.hid (hbad.out (fun e => q1 (by injection e)))
          have p1 : (uk == vk) = false := by simp [q1]
          go_wp2_with fail
          go_quiet (fail)
          go_wp2_with fail
          go_ret
          exact ⟨by rw [hf.out]; rfl, hxz.drewN _⟩
      · have t2 : decide (t < xs.length) = false := by simp [htt]
        have hf : Hid (decide (xs = ys) = true) := by
          show _ = _
          rw [decide_eq_true_iff]
          exact List.ext_getElem hlen'.out (fun j h h' => hno.out j h h' (by omega))
        go_wp2_with fail
        go_ret
        exact ⟨by rw [hf.out]; rfl, hxz⟩
  · have t0 : ((xs.length : Int) != (ys.length : Int)) = true := by simp; omega
    have hf : Hid (decide (xs = ys) = false) := by
      show _ = _
      rw [decide_eq_false_iff_not]
      exact fun e => hlen (by rw [e])
    clear hlen
    go_enter Tryz.func19, Tryz.ntmps19
    go_wp2_with fail
    go_ret
    exact ⟨by rw [hf.out]; rfl, Ext.refl _ _⟩

theorem spl_end (c : UInt8) : ∀ l : List UInt8, spl c (l ++ [c]) = spl c l ++ [[]]
  | [] => by simp [spl]
  | b :: l => by
    have ih := spl_end c l
    rw [List.cons_append, spl, spl, ih]
    split
    · rfl
    · cases h : spl c l with
      | nil => exact absurd h (spl_ne c l)
      | cons y r => rfl
theorem read_empty (x : List UInt8) : (readS (32 :: x)).2 = false ∧ (readS []).2 = false := by
  have key : ∀ B : List ByteArray, B[0]? = some (mk []) → (readB B).2 = false := by
    intro B hB
    unfold readB
    split
    · rfl
    · rw [hB, words_none]
      decide
  constructor
  · unfold readS
    exact key _ (by rw [spl, if_pos rfl]; rfl)
  · unfold readS
    exact key _ rfl
/-- Another separator behind it. -/
theorem parse_semi (t : List UInt8) (h : t.length < 400) : parseV (t ++ [59]) = ([], 3) := by
  have hne : t ++ [59] ≠ [45] := by
    intro e
    cases t with
    | nil => exact absurd e (by decide)
    | cons b r => have := congrArg List.length e; simp at this
  unfold parseV
  rw [if_neg (by rw [List.length_append, List.length_singleton]; omega), if_neg hne, spl_end, readAll_bad _ _ _ (read_empty []).2]
/-- A space ahead of it. -/
theorem parse_space (t : List UInt8) (h : t.length < 400) : parseV (32 :: t) = ([], 3) := by
  have hs : spl 59 (32 :: t) = consHd 32 (spl 59 t) := by rw [spl, if_neg (by decide)]
  unfold parseV
  rw [if_neg (by rw [List.length_cons]; omega), if_neg (by intro e; exact absurd (List.cons.inj e).1 (by decide)), hs]
  cases hh : spl 59 t with
  | nil => exact absurd hh (spl_ne 59 t)
  | cons y r =>
    have := readAll_bad [] (32 :: y) r (read_empty y).1
    rw [List.nil_append] at this
    simp only [consHd, this]
theorem text_short (l : List BOp) (h : okB l = true) : (textL l).length < 400 := by
  unfold okB at h
  rw [Bool.and_eq_true, decide_eq_true_iff] at h
  unfold textL
  split
  · simp
  · have := join_len [59] (l.map toldL) 19 (fun x hx => by
      obtain ⟨y, hy, rfl⟩ := List.mem_map.1 hx
      exact (told_fine y (List.all_eq_true.1 h.2 y hy)).2.2) (by simp)
    rw [List.length_map] at this
    omega
end Go.Proofs.YtgiimmiandhkhaaGreatDoor
