/- DagPlays, the plain law: the reference's rows tell who waits for whom. -/
import Derived.Test.YtolihdcfhonfgaaProg
import Derived.Test.YtolihdcfhonfgaaDagV4
namespace Go.Proofs.Ytolihdcfhonfgaa
open Go.RowKit
set_option linter.unusedSimpArgs false
set_option linter.unusedVariables false

structure Sim (E : Int → Int → Prop) (L : List (Int × List Int)) : Prop where
  inc : L.Pairwise (fun a b => a.1 < b.1)
  row : ∀ l ∈ L, l.2.Pairwise (· < ·) ∧ l.2 ≠ [] ∧ ∀ p ∈ l.2, 1 ≤ p ∧ p < l.1
  e : ∀ p x, E p x ↔ ∃ l ∈ L, l.1 = x ∧ p ∈ l.2

theorem Sim.nil : Sim (fun _ _ => False) [] := ⟨List.Pairwise.nil, by simp, by simp⟩

theorem inc_inj {L : List (Int × List Int)} (h : L.Pairwise (fun a b => a.1 < b.1)) {a b : Int × List Int} (ha : a ∈ L) (hb : b ∈ L) (he : a.1 = b.1) : a = b := by
  obtain ⟨i, hi, rfl⟩ := List.mem_iff_getElem.1 ha
  obtain ⟨j, hj, rfl⟩ := List.mem_iff_getElem.1 hb
  rcases Nat.lt_trichotomy i j with hlt | hij | hlt
  · have := List.pairwise_iff_getElem.1 h i j hi hj hlt; omega
  · subst hij; rfl
  · have := List.pairwise_iff_getElem.1 h j i hj hi hlt; omega

theorem Sim.waits {E : Int → Int → Prop} {L : List (Int × List Int)} (h : Sim E L) (id : Int) : SetList (refWaits L id) (fun p => E p id) := by
  unfold refWaits
  cases hf : L.find? (fun l => l.1 = id) with
  | none =>
    refine ⟨List.Pairwise.nil, fun p => ?_⟩
    simp only [Option.map_none, Option.getD_none, List.not_mem_nil, false_iff]
    rw [h.e]
    rintro ⟨l, hl, he, _⟩
    have := List.find?_eq_none.1 hf l hl
    simp [he] at this
  | some l =>
    have hl := List.mem_of_find?_eq_some hf
    have hid : l.1 = id := by simpa using List.find?_some hf
    refine ⟨(h.row l hl).1, fun p => ?_⟩
    simp only [Option.map_some, Option.getD_some]
    rw [h.e]
    constructor
    · intro hp; exact ⟨l, hl, hid, hp⟩
    · rintro ⟨l', hl', he, hp⟩
      rw [inc_inj h.inc hl' hl (he.trans hid.symm)] at hp
      exact hp

theorem Sim.behind {E : Int → Int → Prop} {L : List (Int × List Int)} (h : Sim E L) (id : Int) : SetList (refBehind L id) (fun x => E id x) := by
  unfold refBehind
  refine ⟨?_, fun x => ?_⟩
  · rw [List.pairwise_map]
    exact h.inc.sublist List.filter_sublist
  · show _ ↔ E id x
    rw [h.e]
    simp only [List.mem_map, List.mem_filter, decide_eq_true_eq]
    constructor
    · rintro ⟨l, ⟨hl, hp⟩, rfl⟩; exact ⟨l, hl, rfl, hp⟩
    · rintro ⟨l, hl, rfl, hp⟩; exact ⟨l, ⟨hl, hp⟩, rfl⟩

theorem predStep_mem (i : Int) (ps : List Int) : ∀ (d : List Int) (x : Int), x ∈ ps.foldl (predStep i) d ↔ x ∈ d ∨ (x = i ∧ ∃ p ∈ ps, p ∈ d) := by
  induction ps with
  | nil => intro d x; simp
  | cons p ps ih =>
    intro d x
    rw [List.foldl_cons]
    by_cases h : p ∈ d ∧ i ∉ d
    · have : predStep i d p = d ++ [i] := by unfold predStep; rw [if_pos h]
      rw [this, predStep_in (by simp), List.mem_append, List.mem_singleton]
      constructor
      · rintro (hx | rfl)
        · exact .inl hx
        · exact .inr ⟨rfl, p, by simp, h.1⟩
      · rintro (hx | ⟨rfl, _⟩)
        · exact .inl hx
        · exact .inr rfl
    · have : predStep i d p = d := by unfold predStep; rw [if_neg h]
      rw [this, ih]
      constructor
      · rintro (hx | ⟨rfl, q, hq, hd⟩)
        · exact .inl hx
        · exact .inr ⟨rfl, q, List.mem_cons_of_mem _ hq, hd⟩
      · rintro (hx | ⟨rfl, q, hq, hd⟩)
        · exact .inl hx
        · rcases List.mem_cons.1 hq with rfl | hq
          · exact .inl (Classical.byContradiction fun hn => h ⟨hd, hn⟩)
          · exact .inr ⟨rfl, q, hq, hd⟩

theorem Sim.dead_to {E : Int → Int → Prop} {L : List (Int × List Int)} (h : Sim E L) (id : Int) : ∀ (n : Nat), n ≤ L.length → ∀ x, x ∈ refDead id (L.take n) ↔ (x = id ∨ (Rch E id x ∧ ∃ l ∈ L.take n, l.1 = x)) := by
  intro n
  induction n with
  | zero => intro _ x; simp [refDead]
  | succ n ih =>
    intro hn x
    have hlt : n < L.length := by omega
    have IH := ih (by omega)
    have hl : L[n] ∈ L := List.getElem_mem hlt
    rw [List.take_succ_eq_append_getElem hlt, refDead_snoc, predStep_mem, IH]
    constructor
    · rintro ((hx | ⟨hr, l, hm, he⟩) | ⟨rfl, p, hp, hd⟩)
      · exact .inl hx
      · exact .inr ⟨hr, l, List.mem_append_left _ hm, he⟩
      · refine .inr ⟨?_, L[n], List.mem_append_right _ (List.mem_singleton.2 rfl), rfl⟩
        have hr : Rch E id p := by
          rcases (IH p).1 hd with rfl | hh
          · exact .refl
          · exact hh.1
        exact .step hr ((h.e _ _).2 ⟨_, hl, rfl, hp⟩)
    · rintro (hx | ⟨hr, l, hm, he⟩)
      · exact .inl (.inl hx)
      · rcases List.mem_append.1 hm with hm | hm
        · exact .inl (.inr ⟨hr, l, hm, he⟩)
        · simp only [List.mem_singleton] at hm
          subst hm
          cases hr with
          | refl => exact .inl (.inl rfl)
          | step hr' hE =>
            rename_i p
            obtain ⟨l0, hl0, e0, hp⟩ := (h.e _ _).1 hE
            have hll := inc_inj h.inc hl0 hl (e0.trans he.symm)
            rw [hll] at hp
            refine .inr ⟨he.symm, p, hp, (IH p).2 ?_⟩
            cases hr' with
            | refl => exact .inl rfl
            | step hr2 hE2 =>
              obtain ⟨l1, hl1, e1, hq⟩ := (h.e _ _).1 hE2
              refine .inr ⟨.step hr2 hE2, l1, ?_, e1⟩
              have hlow := ((h.row _ hl).2.2 p hp).2
              obtain ⟨j, hj, rfl⟩ := List.mem_iff_getElem.1 hl1
              have hjn : j < n := by
                rcases Nat.lt_trichotomy j n with hh | hh | hh
                · exact hh
                · subst hh; omega
                · have := List.pairwise_iff_getElem.1 h.inc n j hlt hj hh; omega
              exact List.mem_take_iff_getElem.2 ⟨j, by omega, rfl⟩

theorem Sim.dead {E : Int → Int → Prop} {L : List (Int × List Int)} (h : Sim E L) (id x : Int) : x ∈ refDead id L ↔ Rch E id x := by
  have := h.dead_to id L.length (Nat.le_refl _) x
  rw [List.take_length] at this
  rw [this]
  constructor
  · rintro (rfl | hh)
    · exact .refl
    · exact hh.1
  · intro hr
    cases hr with
    | refl => exact .inl rfl
    | step hr' hE =>
      obtain ⟨l, hl, he, _⟩ := (h.e _ _).1 hE
      exact .inr ⟨.step hr' hE, l, hl, he⟩

theorem Sim.kill {E : Int → Int → Prop} {L : List (Int × List Int)} (h : Sim E L) (id : Int) : Sim (fun p x => E p x ∧ ¬ Rch E id x) (L.filter (fun l => !decide (l.1 ∈ refDead id L))) := by
  refine ⟨h.inc.sublist List.filter_sublist, fun l hl => h.row l (List.mem_filter.1 hl).1, fun p x => ?_⟩
  simp only [List.mem_filter, Bool.not_eq_true', decide_eq_false_iff_not, h.dead]
  rw [h.e]
  constructor
  · rintro ⟨⟨l, hl, rfl, hp⟩, hn⟩; exact ⟨l, ⟨hl, hn⟩, rfl, hp⟩
  · rintro ⟨l, ⟨hl, hn⟩, rfl, hp⟩; exact ⟨⟨l, hl, rfl, hp⟩, hn⟩

end Go.Proofs.Ytolihdcfhonfgaa
