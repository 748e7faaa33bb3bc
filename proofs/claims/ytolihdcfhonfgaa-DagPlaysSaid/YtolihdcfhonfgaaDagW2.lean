/- DagPlays, the plain law: Done. -/
import Derived.Test.YtolihdcfhonfgaaProg
import Derived.Test.YtolihdcfhonfgaaDagW1
namespace Go.Proofs.Ytolihdcfhonfgaa
open Go.RowKit
set_option linter.unusedSimpArgs false
set_option linter.unusedVariables false

def less1 (id : Int) (ps : List Int) : List Int := ps.filter (fun p => !decide (p = id))
def refDoneOut (id : Int) (L : List (Int × List Int)) : List Int := (L.filter (fun l => decide (less1 id l.2 = []))).map (·.1)
def refDoneRest (id : Int) (L : List (Int × List Int)) : List (Int × List Int) := (L.filter (fun l => !decide (less1 id l.2 = []))).map (fun l => (l.1, less1 id l.2))

theorem less1_mem (id p : Int) (ps : List Int) : p ∈ less1 id ps ↔ p ∈ ps ∧ p ≠ id := by
  unfold less1
  simp [List.mem_filter]

theorem Sim.done_out {E : Int → Int → Prop} {L : List (Int × List Int)} (h : Sim E L) (id : Int) : SetList (refDoneOut id L) (fun x => E id x ∧ ∀ q, E q x → q = id) := by
  unfold refDoneOut
  refine ⟨?_, fun x => ?_⟩
  · rw [List.pairwise_map]
    exact h.inc.sublist List.filter_sublist
  · simp only [List.mem_map, List.mem_filter, decide_eq_true_eq]
    constructor
    · rintro ⟨l, ⟨hl, he⟩, rfl⟩
      have hall : ∀ p, p ∈ l.2 → p = id := fun p hp => Classical.byContradiction fun hn => by
        have : p ∈ less1 id l.2 := (less1_mem id p l.2).2 ⟨hp, hn⟩
        rw [he] at this
        simp at this
      obtain ⟨p, hp⟩ := List.exists_mem_of_ne_nil _ (h.row l hl).2.1
      refine ⟨?_, fun q hq => ?_⟩
      · rw [← hall p hp]
        exact (h.e _ _).2 ⟨l, hl, rfl, hp⟩
      · obtain ⟨l', hl', e, hq'⟩ := (h.e _ _).1 hq
        rw [inc_inj h.inc hl' hl e] at hq'
        exact hall q hq'
    · rintro ⟨h1, h2⟩
      obtain ⟨l, hl, rfl, hp⟩ := (h.e _ _).1 h1
      refine ⟨l, ⟨hl, ?_⟩, rfl⟩
      refine List.eq_nil_iff_forall_not_mem.2 fun p hp' => ?_
      obtain ⟨g1, g2⟩ := (less1_mem id p l.2).1 hp'
      exact g2 (h2 p ((h.e _ _).2 ⟨l, hl, rfl, g1⟩))

theorem Sim.done {E : Int → Int → Prop} {L : List (Int × List Int)} (h : Sim E L) (id : Int) : Sim (fun p x => E p x ∧ p ≠ id) (refDoneRest id L) := by
  unfold refDoneRest
  refine ⟨?_, fun l hl => ?_, fun p x => ?_⟩
  · rw [List.pairwise_map]
    exact h.inc.sublist List.filter_sublist
  · simp only [List.mem_map, List.mem_filter, Bool.not_eq_true', decide_eq_false_iff_not] at hl
    obtain ⟨l0, ⟨hl0, hne⟩, rfl⟩ := hl
    obtain ⟨r1, r2, r3⟩ := h.row l0 hl0
    exact ⟨r1.sublist List.filter_sublist, hne, fun p hp => r3 p ((less1_mem id p l0.2).1 hp).1⟩
  · rw [h.e]
    simp only [List.mem_map, List.mem_filter, Bool.not_eq_true', decide_eq_false_iff_not]
    constructor
    · rintro ⟨⟨l, hl, rfl, hp⟩, hn⟩
      have hp' := (less1_mem id p l.2).2 ⟨hp, hn⟩
      exact ⟨_, ⟨l, ⟨hl, fun he => by rw [he] at hp'; simp at hp'⟩, rfl⟩, rfl, hp'⟩
    · rintro ⟨_, ⟨l, ⟨hl, hne⟩, rfl⟩, rfl, hp⟩
      obtain ⟨g1, g2⟩ := (less1_mem id p l.2).1 hp
      exact ⟨⟨l, hl, rfl, g1⟩, g2⟩

end Go.Proofs.Ytolihdcfhonfgaa
