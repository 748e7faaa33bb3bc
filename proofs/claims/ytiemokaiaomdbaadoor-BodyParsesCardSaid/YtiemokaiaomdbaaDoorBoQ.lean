/- The bodies' laws: BodyTexts. -/
import Derived.Test.YtiemokaiaomdbaaDoorProg
import Derived.Test.YtiemokaiaomdbaaDoorBoZ
namespace Go.Proofs.YtiemokaiaomdbaaDoor
open Go.RowKit
set_option linter.unusedSimpArgs false
set_option linter.unusedVariables false

set_option maxRecDepth 20000 in
set_option maxHeartbeats 8000000 in
theorem btexts_calls (A : Option Addr) (c b o : Nat) (xs : List BOp) (A2 : Option Addr) (c2 b2 o2 : Nat) (ys : List BOp) (w : World) (hG : Gl w) (hx : SlR w 3 opB A c b o xs) (hy : SlR w 3 opB A2 c2 b2 o2 ys) :
    Calls Tryd.prog 6 #[.slice A xs.length c, .slice A2 ys.length c2] w fun e w' => e = .returned (.bool true) ∧ Ext NoB w w' := by
  have hl := hx.le
  have hm := hx.max
  have hl2 := hy.le
  have hm2 := hy.max
  unfold maxLen at hm hm2
  by_cases h1 : xs.length ≤ 40
  · have t1 : decide (40 < xs.length) = false := by simp; omega
    have t1' : decide ((40 : Int) < xs.length) = false := by simp; omega
    by_cases h2 : ys.length ≤ 40
    · have t2 : decide (40 < ys.length) = false := by simp; omega
      have t2' : decide ((40 : Int) < ys.length) = false := by simp; omega
      by_cases hok : okB xs = true
      · have hok' := Lib.hid hok
        clear hok
        go_enter Tryd.func6, Tryd.ntmps6
        go_wp2_with fail
        refine (text_calls A c b o xs w hG hx).mono ?_
        rintro e w1 ⟨rfl, hx1⟩
        rw [hok'.out]
        simp only [if_true]
        go_wp2_with fail
        refine (textR_calls A c b o xs w1 (hx.keep hx1 nb1)).mono ?_
        rintro e w2 ⟨rfl, hx2⟩
        rw [hok'.out]
        simp only [if_true]
        have hx02 := hx1.trans hx2 (fun _ _ e => e)
        go_wp2_with fail
        refine (ok_calls A c b o xs w2 (hx.keep hx02 nb1)).mono ?_
        rintro e w3 ⟨rfl, hx3⟩
        rw [hok'.out]
        have hx03 := hx02.trans hx3 (fun _ _ e => e)
        go_wp2_with fail
        refine (okR_calls A c b o xs w3 (hx.keep hx03 nb1)).mono ?_
        rintro e w4 ⟨rfl, hx4⟩
        rw [hok'.out]
        have hx04 := hx03.trans hx4 (fun _ _ e => e)
        go_wp2_with fail
        refine (same_calls A c b o xs A2 c2 b2 o2 ys w4 (hx.keep hx04 nb1) (hy.keep hx04 nb1)).mono ?_
        rintro e w5 ⟨rfl, hx5⟩
        have hx05 := hx04.trans hx5 (fun _ _ e => e)
        generalize hq : decide (xs = ys) = q at *
        have hq' := Lib.hid hq
        clear hq
        go_wp2_with fail
        refine (sameR_calls A c b o xs A2 c2 b2 o2 ys w5 (hx.keep hx05 nb1) (hy.keep hx05 nb1)).mono ?_
        rintro e w6 ⟨rfl, hx6⟩
        rw [hq'.out]
        have hx06 := hx05.trans hx6 (fun _ _ e => e)
        have qq : (q != q) = false := by simp
        go_wp2_with fail
        refine (steps_calls A c b o xs w6 (hx.keep hx06 nb1)).mono ?_
        rintro e w7 ⟨rfl, hx7⟩
        have hx07 := hx06.trans hx7 (fun _ _ e => e)
        generalize hs : stepsV xs = sv at *
        have hs' := Lib.hid hs
        clear hs
        go_wp2_with fail
        refine (stepsR_calls A c b o xs w7 (hx.keep hx07 nb1)).mono ?_
        rintro e w8 ⟨rfl, hx8⟩
        rw [hs'.out]
        have hx08 := hx07.trans hx8 (fun _ _ e => e)
        have ss : (sv != sv) = false := by simp
        have pm := Lib.hid (parse_mk xs hok'.out w8 (hG.keep hx08))
        generalize mk (textL xs) = S1 at *
        have ee : (S1.toList == S1.toList) = true := by simp
        go_wp2_with fail
        refine pm.out.mono ?_
        rintro e w9 ⟨v9, g9, rfl, hO9, hx9, hg9⟩
        obtain ⟨A9, c9, b9, o9, rfl, hr9, hg92⟩ := hO9.read
        have hx09 := hx08.trans hx9 (fun _ _ e => e)
        go_wp2_with fail
        refine (sameR_calls A9 c9 b9 o9 xs A c b o xs w9 hr9 (hx.keep hx09 nb1)).mono ?_
        rintro e w10 ⟨rfl, hx10⟩
        rw [show decide (xs = xs) = true by simp]
        have hx010 := hx09.trans hx10 (fun _ _ e => e)
        go_wp2_with fail
        refine (awake_calls w10 (hG.keep hx010)).mono ?_
        rintro e w11 ⟨rfl, hx11⟩
        go_wp2_with fail
        go_ret
        exact ⟨rfl, hx010.trans hx11 (fun _ _ e => e)⟩
      · have hok' := Lib.hid (show okB xs = false by simpa using hok)
        clear hok
        go_enter Tryd.func6, Tryd.ntmps6
        go_wp2_with fail
        refine (text_calls A c b o xs w hG hx).mono ?_
        rintro e w1 ⟨rfl, hx1⟩
        rw [hok'.out]
        simp only [Bool.false_eq_true, if_false]
        go_wp2_with fail
        refine (textR_calls A c b o xs w1 (hx.keep hx1 nb1)).mono ?_
        rintro e w2 ⟨rfl, hx2⟩
        rw [hok'.out]
        simp only [Bool.false_eq_true, if_false]
        have hx02 := hx1.trans hx2 (fun _ _ e => e)
        go_wp2_with fail
        refine (ok_calls A c b o xs w2 (hx.keep hx02 nb1)).mono ?_
        rintro e w3 ⟨rfl, hx3⟩
        rw [hok'.out]
        have hx03 := hx02.trans hx3 (fun _ _ e => e)
        go_wp2_with fail
        refine (okR_calls A c b o xs w3 (hx.keep hx03 nb1)).mono ?_
        rintro e w4 ⟨rfl, hx4⟩
        rw [hok'.out]
        have hx04 := hx03.trans hx4 (fun _ _ e => e)
        go_wp2_with fail
        refine (same_calls A c b o xs A2 c2 b2 o2 ys w4 (hx.keep hx04 nb1) (hy.keep hx04 nb1)).mono ?_
        rintro e w5 ⟨rfl, hx5⟩
        have hx05 := hx04.trans hx5 (fun _ _ e => e)
        generalize hq : decide (xs = ys) = q at *
        have hq' := Lib.hid hq
        clear hq
        go_wp2_with fail
        refine (sameR_calls A c b o xs A2 c2 b2 o2 ys w5 (hx.keep hx05 nb1) (hy.keep hx05 nb1)).mono ?_
        rintro e w6 ⟨rfl, hx6⟩
        rw [hq'.out]
        have hx06 := hx05.trans hx6 (fun _ _ e => e)
        have qq : (q != q) = false := by simp
        go_wp2_with fail
        refine (steps_calls A c b o xs w6 (hx.keep hx06 nb1)).mono ?_
        rintro e w7 ⟨rfl, hx7⟩
        have hx07 := hx06.trans hx7 (fun _ _ e => e)
        generalize hs : stepsV xs = sv at *
        have hs' := Lib.hid hs
        clear hs
        go_wp2_with fail
        refine (stepsR_calls A c b o xs w7 (hx.keep hx07 nb1)).mono ?_
        rintro e w8 ⟨rfl, hx8⟩
        rw [hs'.out]
        have hx08 := hx07.trans hx8 (fun _ _ e => e)
        have ss : (sv != sv) = false := by simp
        go_wp2_with fail
        refine (awake_calls w8 (hG.keep hx08)).mono ?_
        rintro e w9 ⟨rfl, hx9⟩
        go_wp2_with fail
        go_ret
        exact ⟨rfl, hx08.trans hx9 (fun _ _ e => e)⟩
    · have t2 : decide (40 < ys.length) = true := by simp; omega
      have t2' : decide ((40 : Int) < ys.length) = true := by simp; omega
      go_enter Tryd.func6, Tryd.ntmps6
      go_wp2_with fail
      refine (awake_calls w hG).mono ?_
      rintro e w1 ⟨rfl, hx1⟩
      go_wp2_with fail
      go_ret
      exact ⟨rfl, hx1⟩
  · have t1 : decide (40 < xs.length) = true := by simp; omega
    have t1' : decide ((40 : Int) < xs.length) = true := by simp; omega
    go_enter Tryd.func6, Tryd.ntmps6
    go_wp2_with fail
    refine (awake_calls w hG).mono ?_
    rintro e w1 ⟨rfl, hx1⟩
    go_wp2_with fail
    go_ret
    exact ⟨rfl, hx1⟩
end Go.Proofs.YtiemokaiaomdbaaDoor
