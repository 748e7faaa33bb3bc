/- The laws on package dag: what the document fixes (awake). -/
import Derived.Test.YtolihdcfhonfgaaProg
import Derived.Test.YtolihdcfhonfgaaDagR
namespace Go.Proofs.Ytolihdcfhonfgaa
open Go.RowKit
set_option linter.unusedSimpArgs false
set_option linter.unusedVariables false

theorem slR_block {w : World} {b : Nat} {cs : Array Value} {E : TypeId} {fr : Nat × Nat} {xs : List Int} (h : w.heap[b]? = some (.cells cs E fr)) (hcs : cs.toList = xs.map (Value.int .i64)) (hm : xs.length ≤ maxLen) : SlR w 1 intE (some ⟨b, 0, none⟩) xs.length b 0 xs :=
  ⟨fun _ => rfl, Nat.le_refl _, hm, by
    intro j u hu
    rw [cell_of_row _ b (0 + j) _ E fr h]
    rw [flat_intE, ← hcs] at hu
    simpa using hu⟩

theorem awake_calls (w : World) : Calls Try.prog 13 #[] w fun e w' => e = .returned (.bool true) ∧ Ext NoB w w' := by
  go_enter Try.func13, Try.ntmps13
  go_wp2_with fail
  refine (newS w).mono ?_
  rintro e w1 ⟨b, r1, r2, rfl, hd1, hx1, hb, hr1, hr2⟩
  go_wp2_with fail
  have hlt1 := hd1.lt
  have hA : Ext NoB w1 (w1.alloc (.cells #[.int .i64 1, .int .i64 2, .int .i64 1] 3)) := (Ext.refl _ _).alloc _
  have hs1 : SlR (w1.alloc (.cells #[.int .i64 1, .int .i64 2, .int .i64 1] 3)) 1 intE (some ⟨w1.heap.size, 0, none⟩) 3 w1.heap.size 0 [1, 2, 1] := slR_block (xs := [1, 2, 1]) (alloc_at w1 _) rfl (by simp [maxLen])
  refine (addS 3 _ 3 _ _ [1, 2, 1] (hd1.keep hA nb nb nb) hs1 (by simp) (by omega) (inR_of (by omega) (by omega)) (by simp) (by simp)).mono ?_
  rintro e w2 ⟨n, rfl, hn, hd2, hx2⟩
  have hn2 : n = 2 := hn [1, 2] (by simp) (by intro p; simp; omega)
  subst hn2
  go_wp2_with fail
  refine (doneS 1 hd2 (by simp)).mono ?_
  rintro e w3 ⟨v3, g3, l3, rfl, hO3, hs3, _, hd3, hx3, hg3⟩
  have hl3 : l3 = [] := hs3.unique (m := []) ⟨List.Pairwise.nil, fun x => by
    simp only [List.not_mem_nil, false_iff]
    rintro ⟨h0, h⟩
    rcases h0 with h0 | ⟨_, h0⟩
    · exact h0
    · subst h0
      exact absurd (h 2 (.inr ⟨by simp, rfl⟩)) (by omega)⟩
  subst hl3
  obtain ⟨A3, c3, b3, o3, rfl, hr3, _⟩ := hO3.read
  go_wp2_with fail
  refine (doneS 2 hd3 (by simp)).mono ?_
  rintro e w4 ⟨v4, g4, l4, rfl, hO4, hs4, _, hd4, hx4, hg4⟩
  have hl4 : l4 = [3] := hs4.unique (m := [3]) ⟨by simp, fun x => by
    simp only [List.mem_singleton]
    constructor
    · rintro rfl
      refine ⟨⟨.inr ⟨by simp, rfl⟩, by omega⟩, fun q hh => ?_⟩
      obtain ⟨h, hq⟩ := hh
      rcases h with h | ⟨h, _⟩
      · exact h.elim
      · simp at h; omega
    · rintro ⟨⟨h, _⟩, _⟩
      rcases h with h | ⟨_, h⟩
      · exact h.elim
      · exact h⟩
  subst hl4
  obtain ⟨A4, c4, b4, o4, rfl, hr4, _⟩ := hO4.read
  obtain rfl := hr4.addr (by simp)
  have hcell := hr4.intCell 0 (by simp)
  simp only [Nat.add_zero, List.getElem_cons_zero] at hcell
  go_wp2_with fail
  refine (lenS hd4).mono ?_
  rintro e w5 ⟨m, rfl, hm, rfl⟩
  have hm0 : m = 0 := hm [] (by simp) (fun x => by
    simp only [List.not_mem_nil, false_iff]
    rintro ⟨p, ⟨⟨h, h1⟩, h2⟩⟩
    rcases h with h | ⟨hp, _⟩
    · exact h
    · simp at hp; omega)
  subst hm0
  go_wp2_with fail
  go_ret
  refine ⟨rfl, ?_⟩
  have hf : ∀ i, i < w.heap.size → ¬ (i = r1 ∨ i = r2) := fun i hi h => by omega
  exact (((hx1.trans hA (fun _ _ h => h)).trans hx2 (fun i hi h => absurd h (hf i hi))).trans hx3 (fun i hi h => absurd h (hf i hi))).trans hx4 (fun i hi h => absurd h (hf i hi))

end Go.Proofs.Ytolihdcfhonfgaa
