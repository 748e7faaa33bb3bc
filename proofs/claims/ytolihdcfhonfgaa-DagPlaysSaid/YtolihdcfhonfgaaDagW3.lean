/- DagPlays, the plain law: Add, Len. -/
import Derived.Test.YtolihdcfhonfgaaProg
import Derived.Test.YtolihdcfhonfgaaDagW2
namespace Go.Proofs.Ytolihdcfhonfgaa
open Go.RowKit
set_option linter.unusedSimpArgs false
set_option linter.unusedVariables false

/-- What the reference's Add does, and answers. -/
def AddBad (id : Int) (ps : List Int) : Prop := id < 1 ∨ ∃ p ∈ ps, p < 1 ∨ id ≤ p
structure AddIns (L : List (Int × List Int)) (id : Int) (r : List Int) (L' : List (Int × List Int)) : Prop where
  ex : ∃ k, k ≤ L.length ∧ (∀ q (h : q < L.length), q < k → (L[q]).1 < id) ∧ (∀ q (h : q < L.length), k ≤ q → id < (L[q]).1) ∧ L' = [] ++ L.take k ++ [(id, r)] ++ L.drop k

theorem AddIns.mem {L L' : List (Int × List Int)} {id : Int} {r : List Int} (h : AddIns L id r L') (l : Int × List Int) : l ∈ L' ↔ l ∈ L ∨ l = (id, r) := by
  obtain ⟨k, hk, h1, h2, rfl⟩ := h.ex
  conv => rhs; lhs; rw [← List.take_append_drop k L]
  simp only [List.nil_append, List.mem_append, List.mem_singleton]
  constructor
  · rintro ((h | h) | h)
    · exact .inl (.inl h)
    · exact .inr h
    · exact .inl (.inr h)
  · rintro ((h | h) | h)
    · exact .inl (.inl h)
    · exact .inr h
    · exact .inl (.inr h)

theorem AddIns.len {L L' : List (Int × List Int)} {id : Int} {r : List Int} (h : AddIns L id r L') : L'.length = L.length + 1 := by
  obtain ⟨k, hk, h1, h2, rfl⟩ := h.ex
  simp; omega

theorem AddIns.inc {L L' : List (Int × List Int)} {id : Int} {r : List Int} (h : AddIns L id r L') (hi : L.Pairwise (fun a b => a.1 < b.1)) : L'.Pairwise (fun a b => a.1 < b.1) := by
  obtain ⟨k, hk, hl, hh, rfl⟩ := h.ex
  have e : L.take k ++ L.drop k = L := List.take_append_drop k L
  have h1 : ∀ x ∈ L.take k, x.1 < id := fun x hx => by
    obtain ⟨q, hq, rfl⟩ := List.mem_iff_getElem.1 hx
    rw [List.length_take] at hq
    rw [List.getElem_take]
    exact hl q (by omega) (by omega)
  have h2 : ∀ x ∈ L.drop k, id < x.1 := fun x hx => by
    obtain ⟨q, hq, rfl⟩ := List.mem_iff_getElem.1 hx
    rw [List.length_drop] at hq
    rw [List.getElem_drop]
    exact hh (k + q) (by omega) (by omega)
  rw [← e, List.pairwise_append] at hi
  obtain ⟨p1, p2, p3⟩ := hi
  rw [List.nil_append, List.pairwise_append, List.pairwise_append]
  refine ⟨⟨p1, by simp, fun a ha b hb => by simp at hb; rw [hb]; exact h1 a ha⟩, p2, fun a ha b hb => ?_⟩
  rcases List.mem_append.1 ha with ha | ha
  · exact p3 a ha b hb
  · simp at ha; rw [ha]; exact h2 b hb

theorem Sim.add {E : Int → Int → Prop} {L L' : List (Int × List Int)} (h : Sim E L) {id : Int} {ps r : List Int} (hb : ¬ AddBad id ps) (hr : SetList r (· ∈ ps)) (hne : r ≠ []) (hi : AddIns L id r L') : Sim (fun p x => E p x ∨ (p ∈ ps ∧ x = id)) L' := by
  refine ⟨hi.inc h.inc, fun l hl => ?_, fun p x => ?_⟩
  · rcases (hi.mem l).1 hl with hl | rfl
    · exact h.row l hl
    · refine ⟨hr.1, hne, fun p hp => ?_⟩
      have hp' := (hr.2 p).1 hp
      refine ⟨Classical.byContradiction fun hn => hb (.inr ⟨p, hp', .inl (by omega)⟩), Classical.byContradiction fun hn => hb (.inr ⟨p, hp', .inr ?_⟩)⟩
      have : ¬ p < id := hn
      omega
  · rw [h.e]
    constructor
    · rintro (⟨l, hl, rfl, hp⟩ | ⟨hp, rfl⟩)
      · exact ⟨l, (hi.mem l).2 (.inl hl), rfl, hp⟩
      · exact ⟨_, (hi.mem _).2 (.inr rfl), rfl, (hr.2 p).2 hp⟩
    · rintro ⟨l, hl, rfl, hp⟩
      rcases (hi.mem l).1 hl with hl | rfl
      · exact .inl ⟨l, hl, rfl, hp⟩
      · exact .inr ⟨(hr.2 p).1 hp, rfl⟩

/-- Whether an ID stands in a row. -/
theorem Sim.has {E : Int → Int → Prop} {L : List (Int × List Int)} (h : Sim E L) (id : Int) : (∃ l ∈ L, l.1 = id) ↔ ∃ p, E p id := by
  constructor
  · rintro ⟨l, hl, rfl⟩
    obtain ⟨p, hp⟩ := List.exists_mem_of_ne_nil _ (h.row l hl).2.1
    exact ⟨p, (h.e _ _).2 ⟨l, hl, rfl, hp⟩⟩
  · rintro ⟨p, hp⟩
    obtain ⟨l, hl, e, _⟩ := (h.e _ _).1 hp
    exact ⟨l, hl, e⟩

theorem Sim.ids {E : Int → Int → Prop} {L : List (Int × List Int)} (h : Sim E L) : (L.map (·.1)).Nodup ∧ ∀ x, x ∈ L.map (·.1) ↔ ∃ p, E p x := by
  constructor
  · refine (List.pairwise_map.2 h.inc).imp (fun hab e => by omega)
  · intro x
    rw [← h.has x, List.mem_map]

end Go.Proofs.Ytolihdcfhonfgaa
