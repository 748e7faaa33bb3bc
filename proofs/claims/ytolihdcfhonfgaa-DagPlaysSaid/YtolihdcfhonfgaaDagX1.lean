/- DagPlays: the contracts as its walk wants them; both sides together. -/
import Derived.Test.YtolihdcfhonfgaaProg
import Derived.Test.YtolihdcfhonfgaaDagV7
import Derived.Test.YtolihdcfhonfgaaDagL
namespace Go.Proofs.Ytolihdcfhonfgaa
open Go.RowKit
set_option linter.unusedSimpArgs false
set_option linter.unusedVariables false

theorem waitsS {w : World} {b r1 r2 N : Nat} {E : Int → Int → Prop} (id : Int) (h : DagS w b r1 r2 E N) (hN : N ≤ 900000) :
    Calls Try.prog 19 #[.pointer (some ⟨b, 0, none⟩), .int .i64 id] w fun e w' =>
      ∃ v g l, e = .returned v ∧ SlO w' 3 1 intE g v l ∧ SetList l (fun p => E p id) ∧ Ext NoB w w' := by
  obtain ⟨⟨ps, ns, g1, g2, g3, g4⟩, g5⟩ := h
  refine (waits_calls b r1 r2 ps ns id w g1 (by omega)).mono fun e w' ⟨v, g, he, hO, hx, hg⟩ => ?_
  exact ⟨v, g, _, he, hO, (side1_set g2.nd id).congr (fun x => g3 x id), hx⟩
theorem behindS {w : World} {b r1 r2 N : Nat} {E : Int → Int → Prop} (id : Int) (h : DagS w b r1 r2 E N) (hN : N ≤ 900000) :
    Calls Try.prog 21 #[.pointer (some ⟨b, 0, none⟩), .int .i64 id] w fun e w' =>
      ∃ v g l, e = .returned v ∧ SlO w' 3 1 intE g v l ∧ SetList l (fun x => E id x) ∧ Ext NoB w w' := by
  obtain ⟨⟨ps, ns, g1, g2, g3, g4⟩, g5⟩ := h
  refine (behind_calls b r1 r2 ps ns id w g1 (by omega)).mono fun e w' ⟨v, g, he, hO, hx, hg⟩ => ?_
  exact ⟨v, g, _, he, hO, (side0_set g2.nd id).congr (fun x => g3 id x), hx⟩

/-- What Add does, told by who waits for whom. -/
def AddE (E : Int → Int → Prop) (id : Int) (ps : List Int) (n er : Int) (E' : Int → Int → Prop) : Prop :=
  (AddBad id ps ∧ n = 0 ∧ er = 1 ∧ E' = E) ∨ (¬ AddBad id ps ∧ ((∃ p, E p id) ∧ n = 0 ∧ er = 9 ∧ E' = E ∨
    (∀ p, ¬ E p id) ∧ er = 0 ∧ (∀ l : List Int, l.Nodup → (∀ p, p ∈ l ↔ p ∈ ps) → n = l.length) ∧ E' = fun p x => E p x ∨ (p ∈ ps ∧ x = id)))

theorem addAny {w : World} {b r1 r2 N : Nat} {E : Int → Int → Prop} (id : Int) (A : Option Addr) (c sb so : Nat) (preds : List Int) (h : DagS w b r1 r2 E N) (hs : SlR w 1 intE A c sb so preds) (hN : N + preds.length ≤ 900000) (hr : InR id) :
    Calls Try.prog 9 #[.pointer (some ⟨b, 0, none⟩), .int .i64 id, .slice A preds.length c] w fun e w' =>
      ∃ (n er : Int) (E' : Int → Int → Prop), e = .returned (.tuple #[.int .i64 n, .int .i64 er]) ∧ AddE E id preds n er E' ∧ DagS w' b r1 r2 E' (N + preds.length) ∧ Ext (fun k => k = r1 ∨ k = r2) w w' := by
  by_cases hbad : AddBad id preds
  · obtain ⟨⟨ps, ns, g1, g2, g3, g4⟩, g5⟩ := h
    refine (add_calls b r1 r2 ps ns id A c sb so preds w g1 hs).mono fun e w' ⟨he, hd, hx⟩ => ?_
    have hv : dagAdd (ps, ns) id preds = (0, 1, (ps, ns)) := by
      unfold dagAdd
      rw [if_pos]
      rcases hbad with hh | ⟨p, hp, hh⟩
      · exact .inl hh
      · refine .inr (List.any_eq_true.2 ⟨p, hp, ?_⟩)
        simp [addBad]; omega
    rw [hv] at he hd
    exact ⟨0, 1, E, he, .inl ⟨hbad, rfl, rfl, rfl⟩, ⟨⟨ps, ns, hd, g2, g3, by omega⟩, g5⟩, hx⟩
  · have h1 : 1 ≤ id := Classical.byContradiction fun hn => hbad (.inl (by omega))
    have hp : ∀ p ∈ preds, 1 ≤ p ∧ p < id := fun p hp => ⟨Classical.byContradiction fun hn => hbad (.inr ⟨p, hp, .inl (by omega)⟩), Classical.byContradiction fun hn => hbad (.inr ⟨p, hp, .inr (by omega)⟩)⟩
    by_cases hno : ∃ p, E p id
    · obtain ⟨⟨ps, ns, g1, g2, g3, g4⟩, g5⟩ := h
      refine (add_calls b r1 r2 ps ns id A c sb so preds w g1 hs).mono fun e w' ⟨he, hd, hx⟩ => ?_
      have hv : dagAdd (ps, ns) id preds = (0, 9, (ps, ns)) := by
        have hb : preds.any (addBad id) = false := by
          rw [List.any_eq_false]
          intro p hpp
          have := hp p hpp
          simp [addBad]; omega
        have hsome : (mget ns id).isSome = true := by
          rw [g2.num]
          obtain ⟨p, hpe⟩ := hno
          have hc : ¬ cnt ps id = 0 := fun e => cnt_zero.1 e p ((g3 p id).2 hpe)
          simp [hc]
        unfold dagAdd
        rw [if_neg (by simp [hb]; omega), if_pos hsome]
      rw [hv] at he hd
      exact ⟨0, 9, E, he, .inr ⟨hbad, .inl ⟨hno, rfl, rfl, rfl⟩⟩, ⟨⟨ps, ns, hd, g2, g3, by omega⟩, g5⟩, hx⟩
    · have hno' : ∀ p, ¬ E p id := fun p hpe => hno ⟨p, hpe⟩
      refine (addS id A c sb so preds h hs hN h1 hr hp hno').mono fun e w' ⟨n, he, hn, hd, hx⟩ => ?_
      exact ⟨n, 0, _, he, .inr ⟨hbad, .inr ⟨hno', rfl, hn, rfl⟩⟩, hd, hx⟩

/-- Both sides of Add. -/
theorem Sim.both {E E' : Int → Int → Prop} {L L' : List (Int × List Int)} (h : Sim E L) {id n m er er' : Int} {ps : List Int} {M K : Nat} (hE : AddE E id ps n er E') (hL : AddRes L id ps m er' L') (hM : ∀ l ∈ L, l.2.length ≤ M) (hps : ps.length ≤ M) (hK : L.length ≤ K) :
    n = m ∧ er = er' ∧ Sim E' L' ∧ (∀ l ∈ L', l.2.length ≤ M) ∧ L'.length ≤ K + 1 := by
  rcases hE with ⟨hb, rfl, rfl, rfl⟩ | ⟨hb, hE⟩
  · rcases hL with ⟨_, rfl, rfl, rfl⟩ | ⟨hb', _⟩
    · exact ⟨rfl, rfl, h, hM, by omega⟩
    · exact absurd hb hb'
  · rcases hL with ⟨hb', _⟩ | ⟨_, hL⟩
    · exact absurd hb' hb
    · rcases hE with ⟨hx, rfl, rfl, rfl⟩ | ⟨hx, rfl, hn, rfl⟩
      · rcases hL with ⟨_, rfl, rfl, rfl⟩ | ⟨hy, _⟩
        · exact ⟨rfl, rfl, h, hM, by omega⟩
        · obtain ⟨l, hl, e⟩ := (h.has id).2 hx
          exact absurd e (hy l hl)
      · rcases hL with ⟨hy, _⟩ | ⟨hy, rfl, r, hr, rfl, hL⟩
        · obtain ⟨p, hp⟩ := (h.has id).1 hy
          exact absurd hp (hx p)
        · have hlen : r.length ≤ M := Nat.le_trans (nodup_sub_length r ps (lt_nodup hr.1) (fun x hx => (hr.2 x).1 hx)) hps
          refine ⟨hn r (lt_nodup hr.1) hr.2, rfl, ?_⟩
          rcases hL with ⟨rfl, rfl⟩ | ⟨hne, hi⟩
          · refine ⟨⟨h.inc, h.row, fun p x => ?_⟩, hM, by omega⟩
            rw [← h.e]
            exact ⟨fun hh => hh.elim (fun h => h) (fun hh => absurd ((hr.2 p).2 hh.1) (by simp)), .inl⟩
          · refine ⟨h.add hb hr hne hi, fun l hl => ?_, by rw [hi.len]; omega⟩
            rcases (hi.mem l).1 hl with hl | rfl
            · exact hM l hl
            · exact hlen

/-- Equal lists are told as the same. -/
theorem sameInts_same (A B : Option Addr) (c d b o b' o' : Nat) (xs ys : List Int) (w : World) (he : xs = ys) (hx : SlR w 1 intE A c b o xs) (hy : SlR w 1 intE B d b' o' ys) :
    Calls Try.prog 11 #[.slice A xs.length c, .slice B ys.length d] w fun e w' => e = .returned (.bool true) ∧ Ext NoB w w' :=
  (sameInts_calls A B c d b o b' o' xs ys w hx hy).mono fun e w' ⟨h1, h2⟩ => ⟨by rw [h1, decide_eq_true he], h2⟩

theorem done_len {M : Nat} {L : List (Int × List Int)} (id : Int) (h : ∀ l ∈ L, l.2.length ≤ M) : (∀ l ∈ refDoneRest id L, l.2.length ≤ M) ∧ (refDoneRest id L).length ≤ L.length := by
  unfold refDoneRest
  refine ⟨fun l hl => ?_, by rw [List.length_map]; exact List.length_filter_le _ _⟩
  simp only [List.mem_map, List.mem_filter] at hl
  obtain ⟨l0, ⟨hl0, _⟩, rfl⟩ := hl
  exact Nat.le_trans (less1_len id l0.2) (h l0 hl0)

theorem kill_set {E : Int → Int → Prop} {L : List (Int × List Int)} (h : Sim E L) (id : Int) {l : List Int} (hl : SetList l (· ∈ (refDead id L).tail)) (hnd : (refDead id L).Nodup) (hh : (refDead id L).head? = some id) : SetList l (fun x => Rch E id x ∧ x ≠ id) := by
  refine hl.congr (fun x => ?_)
  obtain ⟨t, ht⟩ : ∃ t, refDead id L = id :: t := by
    cases hd : refDead id L with
    | nil => rw [hd] at hh; cases hh
    | cons a t => rw [hd] at hh; simp at hh; exact ⟨t, by rw [hh]⟩
  show x ∈ (refDead id L).tail ↔ _
  rw [← h.dead id x, ht]
  rw [ht] at hnd
  simp only [List.tail_cons, List.mem_cons]
  have := (List.nodup_cons.1 hnd).1
  constructor
  · intro hx; exact ⟨.inr hx, fun e => this (e ▸ hx)⟩
  · rintro ⟨hx | hx, hn⟩
    · exact absurd hx hn
    · exact hx

theorem predStep_nd (i : Int) (ps : List Int) : ∀ (d : List Int), d.Nodup → (ps.foldl (predStep i) d).Nodup ∧ (ps.foldl (predStep i) d).head? = d.head? ∨ d = [] := by
  induction ps with
  | nil => intro d hd; exact .inl ⟨hd, rfl⟩
  | cons p ps ih =>
    intro d hd
    by_cases h0 : d = []
    · exact .inr h0
    rw [List.foldl_cons]
    unfold predStep
    split
    · rename_i h
      rcases ih (d ++ [i]) (by rw [List.nodup_append]; exact ⟨hd, by simp, fun a ha b hb => by simp at hb; subst hb; exact fun e => h.2 (e ▸ ha)⟩) with ⟨g1, g2⟩ | h1
      · refine .inl ⟨g1, g2.trans ?_⟩
        cases d with
        | nil => exact absurd rfl h0
        | cons a d => rfl
      · simp at h1
    · rcases ih d hd with hh | hh
      · exact .inl hh
      · exact absurd hh h0

theorem refDead_nd (id : Int) (L : List (Int × List Int)) : (refDead id L).Nodup ∧ (refDead id L).head? = some id := by
  have key : ∀ (L : List (Int × List Int)) (d : List Int), d.Nodup → d.head? = some id → (L.foldl (fun dead l => l.2.foldl (predStep l.1) dead) d).Nodup ∧ (L.foldl (fun dead l => l.2.foldl (predStep l.1) dead) d).head? = some id := by
    intro L
    induction L with
    | nil => intro d h1 h2; exact ⟨h1, h2⟩
    | cons l L ih =>
      intro d h1 h2
      rw [List.foldl_cons]
      rcases predStep_nd l.1 l.2 d h1 with ⟨g1, g2⟩ | h0
      · exact ih _ g1 (g2.trans h2)
      · rw [h0] at h2; cases h2
  exact key L [id] (by simp) rfl

end Go.Proofs.Ytolihdcfhonfgaa
