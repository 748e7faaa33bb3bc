/- The law WheelFar: the walk. -/
import Derived.Test.YtnobodgjabgikaaProg
import Derived.Test.YtnobodgjabgikaaWhP
namespace Go.Proofs.Ytnobodgjabgikaa
open Go.RowKit Go.Sort
set_option linter.unusedSimpArgs false
set_option linter.unusedVariables false

theorem mget_late_self {D : List (Int × Int)} (h : (D.map (·.1)).Nodup) {T : Nat} {id : Int} (hm : mget D id = some (T : Int)) : mget (lateD D T) id = none := by
  cases h1 : mget (lateD D T) id with
  | none => rfl
  | some d =>
    have h2 := (mget_late h T id d).1 h1
    rw [hm] at h2
    have := Option.some.inj h2.1
    omega
theorem dueNone (W : Wh) {b : Nat} (hb : W.b = b) (id : Int) (w : World) (h : Good w W) (hm : mget W.due id = none) : Calls Try.prog 15 #[.pointer (some ⟨b, 0, none⟩), .int .i64 id] w fun e w' => e = .returned (.tuple #[.int .u64 0, .bool false]) ∧ Ext NoB w w' :=
  (dueG W hb id w h).mono fun e w' ⟨he, hx⟩ => ⟨by rw [he, hm]; rfl, hx⟩

set_option maxRecDepth 100000 in
set_option maxHeartbeats 8000000 in
theorem far_walk (due : Nat) (A1 : Option Addr) (c1 b1 o1 : Nat) (ys : List Nat) (w : World) (hdue : due < 18446744073709551616) (hy : SlR w 1 natE A1 c1 b1 o1 ys) (hyb : ∀ n ∈ ys, n < 18446744073709551616) :
    Calls Try.prog 5 #[.int .u64 due, .slice A1 ys.length c1] w fun e w' => e = .returned (.bool true) ∧ Ext NoB w w' := by
  have hyl := hy.le
  have hym := hy.max
  unfold maxLen at hym
  have hyb' := Lib.hid hyb
  clear hyb
  obtain ⟨f, hf0, hf⟩ : ∃ f : Nat → Nat, f 0 = due ∧ ∀ i (h : i < ys.length), f (i + 1) = ys[i] := ⟨fun i => if i = 0 then due else ys.getD (i - 1) 0, rfl, fun i h => by simp [List.getD, h]⟩
  have hf0' := Lib.hid hf0
  have hf' := Lib.hid hf
  clear hf hf0
  go_enter Try.func5, Try.ntmps5
  go_wp2_with fail
  refine (newG 0 _ (by omega)).mono ?_
  rintro e w1 ⟨WA, rfl, hA, nA, dA, x1, oA⟩
  obtain ⟨ba, hba⟩ : ∃ b, WA.b = b := ⟨_, rfl⟩
  rw [hba]
  have hba' := Lib.hid hba
  have nA' := Lib.hid nA
  have dA' := Lib.hid dA
  clear hba nA dA
  go_wp2_with fail
  refine (addOK WA hba'.out 1 due _ hA (by omega) (by omega) (by rw [dA'.out]; rfl) (by rw [dA'.out]; simp)).mono ?_
  rintro e w2 ⟨W2, rfl, a2, n2, d2⟩
  have hba2 := Lib.hid (a2.b.trans hba'.out)
  have n2' := Lib.hid (n2.trans nA'.out)
  have d2' := Lib.hid (show W2.due = dueL f 1 by rw [d2, dA'.out, dueL_succ, hf0'.out]; rfl)
  have z1 := x1.size
  have hx2 : Ext NoB w w2 := x1.trans (F := NoB) a2.ext (fun q h1 h2 => by have := oA q h2; omega)
  have o2 : ∀ q, W2.own q → w.heap.size ≤ q := fun q hq => by
    rcases a2.own q hq with h | h
    · exact oA q h
    · omega
  have good2 := a2.good
  clear hA hba' nA' dA' x1 oA n2 d2 a2 z1
  go_wp2_with fail
  go_loopw [6] (fun i wr => ∃ (k : Nat) (A : Wh), k ≤ ys.length ∧ k ≤ 20 ∧ i = .int .i64 k ∧ Good wr A ∧ Hid (A.b = ba) ∧ Hid (A.now = 0) ∧ Hid (A.due = dueL f (k + 1)) ∧ Ext NoB w wr ∧ (∀ q, A.own q → w.heap.size ≤ q)) (fun i _ => ys.length - (intOf i).toNat)
  case atStart => exact ⟨0, W2, by omega, by omega, rfl, good2, hba2, n2', d2', hx2, o2⟩
  case round =>
    clear good2 hba2 n2' d2' hx2 o2
    obtain ⟨k, A, hk1, hk2, rfl, hA, hba, nA, dA, hext, oA⟩ := hrel
    have z0 := hext.size
    by_cases hlt : k < ys.length ∧ k < 20
    · have t0 : decide (k < ys.length) = true := by simp [hlt.1]
      have t1 : decide ((k : Int) < 20) = true := by simp; omega
      obtain ⟨hk3, hk4⟩ := hlt
      obtain rfl := hy.addr (by omega)
      have hck := (hy.keep hext nb1).natCell k hk3
      have hyk := hyb'.out ys[k] (List.getElem_mem hk3)
      have hfk := Lib.hid (hf'.out k hk3)
      generalize ys[k] = u at *
      go_wp2_with fail
      refine (addOK A hba.out ((k : Int) + 2) u _ hA hyk (by omega) (by rw [dA.out]; exact dueL_none f (k + 1) (.inr (by omega))) (by rw [dA.out, dueL_len]; omega)).mono ?_
      rintro e w3 ⟨A', rfl, a3, n3, d3⟩
      have n3' := Lib.hid (n3.trans nA.out)
      have d3' := Lib.hid (show A'.due = dueL f (k + 1 + 1) by rw [d3, dA.out, dueL_succ f (k + 1), hfk.out, show (((k + 1 : Nat) : Int) + 1) = (k : Int) + 2 by omega])
      clear n3 d3
      go_wp2_with fail
      go_roundw
      case rel =>
        refine ⟨k + 1, A', by omega, by omega, by go_num, a3.good, Lib.hid (a3.b.trans hba.out), n3', d3', hext.trans (F := NoB) a3.ext (fun q h1 h2 => by have := oA q h2; omega), fun q hq => ?_⟩
        rcases a3.own q hq with h | h
        · exact oA q h
        · omega
      case measure => simp [intOf]; omega
    · have hways : (decide (k < ys.length) = false) ∨ (decide (k < ys.length) = true ∧ decide ((k : Int) < 20) = false) := by
        by_cases h1 : k < ys.length
        · exact .inr ⟨by simp [h1], by simp; omega⟩
        · exact .inl (by simp [h1])
      have hDn := Lib.hid (dueL_nodup f (k + 1))
      have hD1 : mget (dueL f (k + 1)) 1 = some (due : Int) := (dueL_get f (k + 1) 1 _).2 ⟨by omega, by omega, by rw [← hf0'.out]; rfl⟩
      have hD1' := Lib.hid hD1
      clear hD1 hlt
      generalize hDD : dueL f (k + 1) = D at *
      clear hDD
      by_cases hd0 : due = 0
      · have g1 : decide (0 < due) = false := by simp; omega
        have g2 : decide (0 < (due : Int)) = false := by simp; omega
        have hd0' := Lib.hid hd0
        clear hd0
        rcases hways with t0 | ⟨t0, t1⟩
        all_goals
          go_wp2_with fail
          refine (advT A hba.out due due _ hA (by omega) (by rw [nA.out]; omega)).mono ?_
          rintro e w4 ⟨v4, g4, xs4, A4, rfl, hO4, ht4, hl4, a4, n4, d4, hg4⟩
          have ht4' := Lib.hid (show TolD D due xs4 from dA.out ▸ ht4.d)
          have hm4 := Lib.hid (show mget A4.due 1 = none by rw [d4, dA.out]; exact mget_late_self hDn.out hD1'.out)
          have hba4 := Lib.hid (a4.b.trans hba.out)
          have hin := Lib.hid (show (((due : Int), 1) : Tm) ∈ xs4 from (ht4'.out.mem _).2 ⟨hD1'.out, Int.le_refl _⟩)
          have honly := Lib.hid (show ∀ t ∈ xs4, t.2 = 1 → t.1 = due from fun t h1 h2 => by
            have h3 := ((ht4'.out.mem t).1 h1).1
            rw [h2, hD1'.out] at h3
            exact (Option.some.inj h3).symm)
          have hext4 := hext.trans (F := NoB) a4.ext (fun q h1 h2 => by have := oA q h2; omega)
          have good4 := a4.good
          clear n4 d4 ht4 hg4
          obtain ⟨A7, c7, b7, o7, rfl, hr7, hgr7⟩ := hO4.read
          have hl7 := hr7.le
          have hm7 := hr7.max
          unfold maxLen at hm7
          go_wp2_with fail
          go_loop [10, 11] (fun fv i => ∃ (t : Nat) (fb : Bool), t ≤ xs4.length ∧ i = .int .i64 t ∧ fv = .bool fb ∧ Hid (fb = decide ((((due : Int), 1) : Tm) ∈ xs4.take t))) (fun _ i => xs4.length - (intOf i).toNat)
          case atStart => exact ⟨0, false, Nat.zero_le _, rfl, rfl, Lib.hid (by simp)⟩
          case round =>
            obtain ⟨t, fb, htl, rfl, rfl, hfb⟩ := hrel
            by_cases htt : t < xs4.length
            · have t5 : decide (t < xs4.length) = true := by simp [htt]
              obtain rfl := hr7.addr (by omega)
              have e70 := hr7.cell timerE_len t xs4[t] (List.getElem?_eq_getElem htt) 0 _ rfl
              have e71 := hr7.cell timerE_len t xs4[t] (List.getElem?_eq_getElem htt) 1 _ rfl
              rw [Nat.add_zero] at e70
              have hon := Lib.hid (honly.out _ (List.getElem_mem htt))
              have htk := Lib.hid (show xs4.take (t + 1) = xs4.take t ++ [xs4[t]] from List.take_succ_eq_append_getElem htt)
              generalize xs4[t] = u at *
              obtain ⟨ud, ui⟩ := u
              dsimp only at e70 e71
              by_cases hui : ui = 1
              · obtain rfl : ud = (due : Int) := hon.out hui
                subst hui
                have hnew : Hid (true = decide ((((due : Int), 1) : Tm) ∈ xs4.take (t + 1))) := by show _ = _; rw [htk.out]; simp
                cases fb
                all_goals
                  go_wp2_with fail
                  go_round
                  case rel => exact ⟨t + 1, true, by omega, by go_num, rfl, hnew⟩
                  case measure => simp [intOf]; omega
              · have t6 : (ui == 1) = false := by simp [hui]
                have hnew : Hid (fb = decide ((((due : Int), 1) : Tm) ∈ xs4.take (t + 1))) := by
                  show _ = _
                  rw [htk.out, hfb.out]
                  have : ¬ 1 = ui := fun e => hui e.symm
                  simp [this]
                clear hfb
                cases fb
                all_goals
                  go_wp2_with fail
                  go_round
                  case rel => exact ⟨t + 1, _, by omega, by go_num, rfl, hnew⟩
                  case measure => simp [intOf]; omega
            · have t5 : decide (t < xs4.length) = false := by simp [htt]
              obtain rfl : fb = true := by
                rw [hfb.out, List.take_of_length_le (by omega)]
                exact decide_eq_true hin.out
              go_wp2_with fail
              refine (dueNone A4 hba4.out 1 _ good4 hm4.out).mono ?_
              rintro e w5 ⟨rfl, hx5⟩
              go_wp2_with fail
              refine (awake_calls _).mono ?_
              rintro e w9 ⟨rfl, hx9⟩
              go_wp2_with fail
              go_ret
              exact ⟨rfl, (hext4.trans hx5 (fun _ _ e => e)).trans hx9 (fun _ _ e => e)⟩
      · have g1 : decide (0 < due) = true := by simp; omega
        have g2 : decide (0 < (due : Int)) = true := by simp; omega
        have g3 : 1 ≤ (due : Int) := by omega
        obtain ⟨m, hm⟩ : ∃ m : Nat, (due : Int) - 1 = (m : Int) := ⟨due - 1, by omega⟩
        have hm1 : m < due := by omega
        have hm2 : due ≤ m + 1 := by omega
        clear hd0
        rcases hways with t0 | ⟨t0, t1⟩
        all_goals
          go_wp2_with fail
          refine (advT A hba.out m m _ hA (by omega) (by rw [nA.out]; omega)).mono ?_
          rintro e w3 ⟨v3, g3, xs3, A3, rfl, hO3, ht3, hl3, a3, n3, d3, hg3⟩
          have n3' := Lib.hid n3
          have ht3' := Lib.hid (show TolD D m xs3 from dA.out ▸ ht3.d)
          have d3' := Lib.hid (show A3.due = lateD D m by rw [d3, dA.out]; rfl)
          have hba3 := Lib.hid (a3.b.trans hba.out)
          have hno := Lib.hid (show ∀ t ∈ xs3, t.2 ≠ 1 from fun t h1 h2 => by
            have h3 := (ht3'.out.mem t).1 h1
            rw [h2, hD1'.out] at h3
            have := Option.some.inj h3.1
            omega)
          have hext3 := hext.trans (F := NoB) a3.ext (fun q h1 h2 => by have := oA q h2; omega)
          have o3 : ∀ q, A3.own q → w.heap.size ≤ q := fun q hq => by
            rcases a3.own q hq with h | h
            · exact oA q h
            · omega
          have hD3 := Lib.hid (show mget (lateD D m) 1 = some (due : Int) from (mget_late hDn.out m 1 _).2 ⟨hD1'.out, by omega⟩)
          have hDn3 := Lib.hid (lateD_nodup hDn.out m)
          have good3 := a3.good
          clear n3 d3 ht3 hext oA hA hg3
          obtain ⟨A6, c6, b6, o6, rfl, hr6, hgr6⟩ := hO3.read
          have hl6 := hr6.le
          have hm6 := hr6.max
          unfold maxLen at hm6
          go_wp2_with fail
          go_loop [8] (fun i => ∃ t : Nat, t ≤ xs3.length ∧ i = .int .i64 t) (fun i => xs3.length - (intOf i).toNat)
          case atStart => exact ⟨0, Nat.zero_le _, rfl⟩
          case round =>
            obtain ⟨t, htl, rfl⟩ := hrel
            by_cases htt : t < xs3.length
            · have t2 : decide (t < xs3.length) = true := by simp [htt]
              obtain rfl := hr6.addr (by omega)
              have e61 := hr6.cell timerE_len t xs3[t] (List.getElem?_eq_getElem htt) 1 _ rfl
              have hn6 := hno.out _ (List.getElem_mem htt)
              generalize xs3[t] = u at *
              obtain ⟨ud, ui⟩ := u
              dsimp only at e61 hn6
              have t3 : (ui == 1) = false := by simp [hn6]
              go_wp2_with fail
              go_round
              case rel => exact ⟨t + 1, by omega, by go_num⟩
              case measure => simp [intOf]; omega
            · have t2 : decide (t < xs3.length) = false := by simp [htt]
              clear hr6 hgr6 hO3
              go_wp2_with fail
              refine (advT A3 hba3.out due due _ good3 (by omega) (by rw [n3'.out]; omega)).mono ?_
              rintro e w4 ⟨v4, g4, xs4, A4, rfl, hO4, ht4, hl4, a4, n4, d4, hg4⟩
              have ht4' := Lib.hid (show TolD (lateD D m) due xs4 from d3'.out ▸ ht4.d)
              have hm4 := Lib.hid (show mget A4.due 1 = none by rw [d4, d3'.out]; exact mget_late_self hDn3.out hD3.out)
              have hba4 := Lib.hid (a4.b.trans hba3.out)
              have hin := Lib.hid (show (((due : Int), 1) : Tm) ∈ xs4 from (ht4'.out.mem _).2 ⟨hD3.out, Int.le_refl _⟩)
              have honly := Lib.hid (show ∀ t ∈ xs4, t.2 = 1 → t.1 = due from fun t h1 h2 => by
                have h3 := ((ht4'.out.mem t).1 h1).1
                rw [h2, hD3.out] at h3
                exact (Option.some.inj h3).symm)
              have hext4 := hext3.trans (F := NoB) a4.ext (fun q h1 h2 => by have := o3 q h2; omega)
              have good4 := a4.good
              clear n4 d4 ht4 hg4
              obtain ⟨A7, c7, b7, o7, rfl, hr7, hgr7⟩ := hO4.read
              have hl7 := hr7.le
              have hm7 := hr7.max
              unfold maxLen at hm7
              go_wp2_with fail
              go_loop [10, 11] (fun fv i => ∃ (t : Nat) (fb : Bool), t ≤ xs4.length ∧ i = .int .i64 t ∧ fv = .bool fb ∧ Hid (fb = decide ((((due : Int), 1) : Tm) ∈ xs4.take t))) (fun _ i => xs4.length - (intOf i).toNat)
              case atStart => exact ⟨0, false, Nat.zero_le _, rfl, rfl, Lib.hid (by simp)⟩
              case round =>
                obtain ⟨t, fb, htl, rfl, rfl, hfb⟩ := hrel
                by_cases htt : t < xs4.length
                · have t5 : decide (t < xs4.length) = true := by simp [htt]
                  obtain rfl := hr7.addr (by omega)
                  have e70 := hr7.cell timerE_len t xs4[t] (List.getElem?_eq_getElem htt) 0 _ rfl
                  have e71 := hr7.cell timerE_len t xs4[t] (List.getElem?_eq_getElem htt) 1 _ rfl
                  rw [Nat.add_zero] at e70
                  have hon := Lib.hid (honly.out _ (List.getElem_mem htt))
                  have htk := Lib.hid (show xs4.take (t + 1) = xs4.take t ++ [xs4[t]] from List.take_succ_eq_append_getElem htt)
                  generalize xs4[t] = u at *
                  obtain ⟨ud, ui⟩ := u
                  dsimp only at e70 e71
                  by_cases hui : ui = 1
                  · obtain rfl : ud = (due : Int) := hon.out hui
                    subst hui
                    have hnew : Hid (true = decide ((((due : Int), 1) : Tm) ∈ xs4.take (t + 1))) := by show _ = _; rw [htk.out]; simp
                    cases fb
                    all_goals
                      go_wp2_with fail
                      go_round
                      case rel => exact ⟨t + 1, true, by omega, by go_num, rfl, hnew⟩
                      case measure => simp [intOf]; omega
                  · have t6 : (ui == 1) = false := by simp [hui]
                    have hnew : Hid (fb = decide ((((due : Int), 1) : Tm) ∈ xs4.take (t + 1))) := by
                      show _ = _
                      rw [htk.out, hfb.out]
                      have : ¬ 1 = ui := fun e => hui e.symm
                      simp [this]
                    clear hfb
                    cases fb
                    all_goals
                      go_wp2_with fail
                      go_round
                      case rel => exact ⟨t + 1, _, by omega, by go_num, rfl, hnew⟩
                      case measure => simp [intOf]; omega
                · have t5 : decide (t < xs4.length) = false := by simp [htt]
                  obtain rfl : fb = true := by
                    rw [hfb.out, List.take_of_length_le (by omega)]
                    exact decide_eq_true hin.out
                  go_wp2_with fail
                  refine (dueNone A4 hba4.out 1 _ good4 hm4.out).mono ?_
                  rintro e w5 ⟨rfl, hx5⟩
                  go_wp2_with fail
                  refine (awake_calls _).mono ?_
                  rintro e w9 ⟨rfl, hx9⟩
                  go_wp2_with fail
                  go_ret
                  exact ⟨rfl, (hext4.trans hx5 (fun _ _ e => e)).trans hx9 (fun _ _ e => e)⟩

end Go.Proofs.Ytnobodgjabgikaa
