/- The law of the wheel that is always asked: awake. -/
import Derived.Test.YtnobodgjabgikaaProg
import Derived.Test.YtnobodgjabgikaaWhN
namespace Go.Proofs.Ytnobodgjabgikaa
open Go.RowKit Go.Sort
set_option linter.unusedSimpArgs false
set_option linter.unusedVariables false

set_option maxRecDepth 20000 in
set_option maxHeartbeats 4000000 in
theorem awake_calls (w : World) : Calls Try.prog 14 #[] w fun e w' => e = .returned (.bool true) ∧ Ext NoB w w' := by
  go_enter Try.func14, Try.ntmps14
  go_wp2_with fail
  refine (newG 0 _ (by omega)).mono ?_
  rintro e w1 ⟨W1, rfl, h1, n1, d1, x1, o1⟩
  have n1' := Lib.hid n1
  have d1' := Lib.hid d1
  clear n1 d1
  obtain ⟨b, hb⟩ : ∃ b, W1.b = b := ⟨_, rfl⟩
  rw [hb]
  have hb1 := Lib.hid hb
  clear hb
  go_wp2_with fail
  refine (addOK W1 hb1.out 1 5 _ h1 (by omega) (by omega) (by rw [d1'.out]; rfl) (by rw [d1'.out]; simp)).mono ?_
  rintro e w2 ⟨W2, rfl, a2, n2, d2⟩
  have n2' := Lib.hid (n2.trans n1'.out)
  have d2' := Lib.hid (show W2.due = [(1, 5)] by rw [d2, d1'.out]; rfl)
  have hb2 := Lib.hid (a2.b.trans hb1.out)
  clear n2 d2
  go_wp2_with fail
  refine (addOK W2 hb2.out 2 3 _ a2.good (by omega) (by omega) (by rw [d2'.out]; rfl) (by rw [d2'.out]; simp)).mono ?_
  rintro e w3 ⟨W3, rfl, a3, n3, d3⟩
  have n3' := Lib.hid (n3.trans n2'.out)
  have d3' := Lib.hid (show W3.due = [(1, 5), (2, 3)] by rw [d3, d2'.out]; rfl)
  have hb3 := Lib.hid (a3.b.trans hb2.out)
  clear n3 d3
  go_wp2_with fail
  refine (advT W3 hb3.out 9 9 _ a3.good (by omega) (by rw [n3'.out]; rfl)).mono ?_
  rintro e w4 ⟨v, g, xs, W4, rfl, hO, ht, hl, a4, n4, d4, hg⟩
  have n4' := Lib.hid n4
  have d4' := Lib.hid (show W4.due.length = 0 by rw [d4, d3'.out]; rfl)
  have hb4 := Lib.hid (a4.b.trans hb3.out)
  clear n4 d4
  have hxs : xs = [(3, 2), (5, 1)] := tlt_eq_of_mem ht.srt (by decide) (fun t => by
    rw [ht.mem, d3'.out]
    obtain ⟨d, i⟩ := t
    simp only [mget_cons, mget_nil, List.mem_cons, List.not_mem_nil, or_false, Prod.mk.injEq]
    by_cases h1 : 1 = i
    · simp only [if_pos h1, Option.some.injEq]; omega
    · simp only [if_neg h1]
      by_cases h2 : 2 = i
      · simp only [if_pos h2, Option.some.injEq]; omega
      · simp only [if_neg h2]
        constructor
        · rintro ⟨h, _⟩; cases h
        · omega)
  subst hxs
  obtain ⟨A, c, bb, o, rfl, hr, _⟩ := hO.read
  obtain rfl := hr.addr (by simp)
  have e1 := hr.cell timerE_len 0 (3, 2) rfl 1 (.int .i64 2) rfl
  have e2 := hr.cell timerE_len 1 (5, 1) rfl 1 (.int .i64 1) rfl
  have hle := hr.le
  have hmx := hr.max
  unfold maxLen at hmx
  simp only [List.length_cons, List.length_nil] at hle
  rw [show ([(3, 2), (5, 1)] : List Tm).length = 2 from rfl]
  have hext : Ext NoB w w4 := by
    have o2 := a2.own
    have o3 := a3.own
    have z1 := x1.size
    have z2 := a2.ext.size
    have z3 := a3.ext.size
    refine ((x1.trans (F := NoB) a2.ext (fun i hi hq => ?_)).trans (F := NoB) a3.ext (fun i hi hq => ?_)).trans (F := NoB) a4.ext (fun i hi hq => ?_)
    · have := o1 i hq; omega
    · rcases o2 i hq with h | h
      · have := o1 i h; omega
      · omega
    · rcases o3 i hq with h | h
      · rcases o2 i h with h | h
        · have := o1 i h; omega
        · omega
      · omega
  go_wp2_with fail
  refine (nowG W4 hb4.out n4'.out _ a4.good).mono ?_
  rintro e w5 ⟨rfl, rfl⟩
  go_wp2_with fail
  refine (lenG W4 hb4.out d4'.out _ a4.good).mono ?_
  rintro e w6 ⟨rfl, rfl⟩
  go_wp2_with fail
  go_ret
  exact ⟨rfl, hext⟩

end Go.Proofs.Ytnobodgjabgikaa
