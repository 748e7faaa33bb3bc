/- The bodies' laws: awake, BodySteps. -/
import Derived.Test.YtiemokaiaomdbaaDoorProg
import Derived.Test.YtiemokaiaomdbaaDoorBoP
namespace Go.Proofs.YtiemokaiaomdbaaDoor
open Go.RowKit
set_option linter.unusedSimpArgs false
set_option linter.unusedVariables false

def awL : List BOp := [⟨2, 3, 0⟩, ⟨5, 0, 0⟩]
theorem aw_ok : okB awL = true := by decide
theorem aw_text : mk (textL awL) = ⟨#[115, 117, 98, 109, 105, 116, 32, 51, 59, 112, 97, 110, 105, 99]⟩ := by
  have h3 : Lib.itoa 3 = [51] := by
    have := Lib.itoa_nonneg 3
    rw [Lib.decDigits_one (by omega)] at this
    exact this
  have h1 : toldL ⟨2, 3, 0⟩ = [115, 117, 98, 109, 105, 116, 32, 51] := by
    unfold toldL
    rw [show arOf (2 : Int) = 1 from rfl, (argsL_eq _).2.1]
    show wdOf 2 ++ 32 :: Lib.itoa 3 = _
    rw [h3]; rfl
  have h2 : toldL ⟨5, 0, 0⟩ = [112, 97, 110, 105, 99] := by
    unfold toldL
    rw [show arOf (5 : Int) = 0 from rfl, (argsL_eq _).1]; rfl
  unfold textL awL
  rw [if_neg (by simp), List.map_cons, List.map_cons, List.map_nil, h1, h2]
  rfl
theorem aw_steps : stepsV awL = 2 := by decide
theorem parse_mk (l : List BOp) (h : okB l = true) (w : World) (hG : Gl w) :
    Calls Tryd.prog 10 #[.string (mk (textL l))] w fun e w' => ∃ v g, e = .returned (.tuple #[v, .int .i64 0]) ∧ SlO w' 23 3 opB g v l ∧ Ext NoB w w' ∧ (∀ q, g = some q → w.heap.size ≤ q) := by
  have hd : (mk (textL l)).data.toList = textL l := by simp [mk]
  refine (parse_calls (mk (textL l)) w hG).mono ?_
  rintro e w' ⟨v, g, he, hO, hx, hg⟩
  rw [hd, parse_text l h] at he hO
  exact ⟨v, g, he, hO, hx, hg⟩

set_option maxRecDepth 20000 in
set_option maxHeartbeats 4000000 in
theorem awake_calls (w : World) (hG : Gl w) : Calls Tryd.prog 9 #[] w fun e w' => e = .returned (.bool true) ∧ Ext NoB w w' := by
  go_enter Tryd.func9, Tryd.ntmps9
  go_wp2_with fail
  rw [← aw_text]
  refine (parse_mk awL aw_ok w hG).mono ?_
  rintro e w1 ⟨v, g, rfl, hO, hx1, hg⟩
  obtain ⟨A, c, b, o, rfl, hr, hg2⟩ := hO.read
  rw [show awL.length = 2 from rfl]
  obtain rfl := hr.addr (by decide)
  go_wp2_with fail
  refine (text_calls _ c b o awL w1 (hG.keep hx1) hr).mono ?_
  rintro e w2 ⟨rfl, hx2⟩
  have hr2 := hr.keep hx2 nb1
  have e1 := hr2.cell opB_len 0 ⟨2, 3, 0⟩ rfl 1 _ rfl
  rw [show o + 0 * 3 + 1 = o + 1 by omega] at e1
  rw [aw_ok, if_pos rfl, if_pos rfl, aw_text]
  have hst := steps_calls (some ⟨b, o, none⟩) c b o awL w2 hr2
  rw [aw_steps] at hst
  rw [show awL.length = 2 from rfl] at hst
  have hst := Lib.hid hst
  go_wp2_with (first
    | (go_at_call 13; (with_reducible refine hst.out.mono ?_); rintro e w3 ⟨rfl, hx3⟩))
  go_ret
  exact ⟨rfl, (hx1.trans hx2 (fun _ _ e => e)).trans hx3 (fun _ _ e => e)⟩
end Go.Proofs.YtiemokaiaomdbaaDoor
