/- Plain laws on package dag: Kill. No program here. -/
import Derived.Test.YtolihdcfhonfgaaDagP
namespace Go.Proofs.Ytolihdcfhonfgaa
open Go.RowKit
set_option linter.unusedSimpArgs false
set_option linter.unusedVariables false

theorem nodup_sub_length {α : Type} [DecidableEq α] : ∀ (l U : List α), l.Nodup → (∀ x ∈ l, x ∈ U) → l.length ≤ U.length
  | [], U, _, _ => Nat.zero_le _
  | x :: l, U, hn, hs => by
    rw [List.nodup_cons] at hn
    have hx : x ∈ U := hs x (by simp)
    have := nodup_sub_length l (U.erase x) hn.2 (fun y hy => (List.mem_erase_of_ne (show y ≠ x from fun e => hn.1 (e ▸ hy))).2 (hs y (List.mem_cons_of_mem _ hy)))
    rw [List.length_erase_of_mem hx] at this
    have hpos := List.length_pos_of_mem hx
    rw [List.length_cons]
    omega

inductive Rch (E : Int → Int → Prop) (a : Int) : Int → Prop
  | refl : Rch E a a
  | step {p x : Int} : Rch E a p → E p x → Rch E a x

structure GOk (g : Gone) (t : List Int) : Prop where
  nd : (g.map (·.1)).Nodup
  tr : ∀ e ∈ g, e.2 = true
  tn : t.Nodup
  tg : ∀ x ∈ t, x ∈ g.map (·.1)

theorem g_get {g : Gone} {t : List Int} (h : GOk g t) (k : Int) : (mget g k).getD false = true ↔ k ∈ g.map (·.1) := by
  constructor
  · intro hg
    cases hm : mget g k with
    | none => rw [hm] at hg; cases hg
    | some v => exact List.mem_map.2 ⟨_, mem_of_mget hm, rfl⟩
  · intro he
    obtain ⟨e, hem, rfl⟩ := List.mem_map.1 he
    rw [mget_of_mem h.nd (x := e.1) (v := e.2) hem, h.tr e hem]; rfl

theorem see_step {g : Gone} {t : List Int} (h : GOk g t) (k : Int) :
    GOk (seeStep (g, t) k).1 (seeStep (g, t) k).2 ∧ (∀ x, x ∈ (seeStep (g, t) k).1.map (·.1) ↔ x ∈ g.map (·.1) ∨ x = k) ∧ (∀ x, x ∈ (seeStep (g, t) k).2 ↔ x ∈ t ∨ (x = k ∧ x ∉ g.map (·.1))) := by
  unfold seeStep
  by_cases hg : (mget g k).getD false = true
  · simp only [if_pos hg]
    have hk := (g_get h k).1 hg
    exact ⟨h, fun x => ⟨.inl, fun c => c.elim id (fun e => e ▸ hk)⟩, fun x => ⟨.inl, fun c => c.elim id (fun ⟨e, n⟩ => absurd (e ▸ hk) n)⟩⟩
  · simp only [if_neg hg]
    have hk : k ∉ g.map (·.1) := fun e => hg ((g_get h k).2 e)
    have hput : mput g k true = g ++ [(k, true)] := by
      unfold mput
      rw [if_neg]
      intro ha
      obtain ⟨e, he, hpe⟩ := List.any_eq_true.1 ha
      simp only [decide_eq_true_eq] at hpe
      exact hk (List.mem_map.2 ⟨e, he, hpe⟩)
    have hkeys : ∀ x, x ∈ (mput g k true).map (·.1) ↔ x ∈ g.map (·.1) ∨ x = k := by intro x; rw [hput]; simp
    refine ⟨⟨mput_nodup h.nd _ _, ?_, ?_, ?_⟩, hkeys, ?_⟩
    · intro e he
      rw [hput, List.mem_append] at he
      rcases he with he | he
      · exact h.tr e he
      · simp only [List.mem_singleton] at he; rw [he]
    · rw [List.nodup_append]
      refine ⟨h.tn, by simp, ?_⟩
      intro a ha b hb
      simp only [List.mem_singleton] at hb
      subst hb
      exact fun e => hk (e ▸ h.tg a ha)
    · intro x hx
      rw [hkeys]
      rw [List.mem_append, List.mem_singleton] at hx
      exact hx.imp (h.tg x) id
    · intro x
      rw [List.mem_append, List.mem_singleton]
      exact ⟨fun c => c.imp id (fun e => ⟨e, e ▸ hk⟩), fun c => c.imp id (·.1)⟩

theorem see_fold : ∀ (l : List Int) (g : Gone) (t : List Int), GOk g t →
    GOk (l.foldl seeStep (g, t)).1 (l.foldl seeStep (g, t)).2 ∧ (∀ x, x ∈ (l.foldl seeStep (g, t)).1.map (·.1) ↔ x ∈ g.map (·.1) ∨ x ∈ l) ∧ (∀ x, x ∈ (l.foldl seeStep (g, t)).2 ↔ x ∈ t ∨ (x ∈ l ∧ x ∉ g.map (·.1)))
  | [], g, t, h => ⟨h, by simp, by simp⟩
  | k :: l, g, t, h => by
    obtain ⟨h1, h2, h3⟩ := see_step h k
    obtain ⟨g1, g2, g3⟩ := see_fold l _ _ h1
    rw [List.foldl_cons]
    refine ⟨g1, fun x => ?_, fun x => ?_⟩
    · rw [g2, h2, List.mem_cons]
      exact or_assoc
    · rw [g3, h3, h2, List.mem_cons]
      constructor
      · rintro ((a | ⟨a, b⟩) | ⟨a, b⟩)
        · exact .inl a
        · exact .inr ⟨.inl a, b⟩
        · exact .inr ⟨.inr a, fun c => b (.inl c)⟩
      · rintro (a | ⟨a | a, b⟩)
        · exact .inl (.inl a)
        · exact .inl (.inr ⟨a, b⟩)
        · by_cases hxk : x = k
          · exact .inl (.inr ⟨hxk, b⟩)
          · exact .inr ⟨a, fun c => c.elim b hxk⟩

/-- What Kill keeps from round to round. -/
structure KInv (ps0 : Pairs) (id : Int) (ps : Pairs) (ns : Nums) (g : Gone) (t : List Int) : Prop where
  inv : Inv ps ns
  ok : GOk g t
  rch : ∀ x ∈ g.map (·.1), Rch (Ed ps0) id x
  first : id ∈ g.map (·.1)
  ed : ∀ p x, Ed ps p x ↔ Ed ps0 p x ∧ ¬ (x ∈ g.map (·.1) ∧ x ∉ t)
  closed : ∀ p x, p ∈ g.map (·.1) → p ∉ t → Ed ps0 p x → x ∈ g.map (·.1)
  short : ps.length ≤ ps0.length

def allOf (ps0 : Pairs) (id : Int) : List Int := id :: ps0.map (·.1.2)
theorem rch_all {ps0 : Pairs} {id x : Int} (h : Rch (Ed ps0) id x) : x ∈ allOf ps0 id := by
  cases h with
  | refl => simp [allOf]
  | step _ he =>
    obtain ⟨e, hem, hpe⟩ := List.mem_map.1 he
    exact List.mem_cons_of_mem _ (List.mem_map.2 ⟨e, hem, by rw [hpe]⟩)

theorem kill_step {ps0 : Pairs} {id x : Int} {ps : Pairs} {ns : Nums} {g : Gone} {t : List Int} (h : KInv ps0 id ps ns g (x :: t)) :
    KInv ps0 id (ps.filter (fun e => !(e.1.2 == x))) (mdel ns x) ((sideOf 0 x ps).foldl seeStep (g, t)).1 ((sideOf 0 x ps).foldl seeStep (g, t)).2 ∧
    (∀ y, (y ∈ ((sideOf 0 x ps).foldl seeStep (g, t)).1.map (·.1) ∧ y ∉ ((sideOf 0 x ps).foldl seeStep (g, t)).2) ↔ (y ∈ g.map (·.1) ∧ y ∉ x :: t) ∨ y = x) := by
  have hs := side0_set h.inv.nd x
  have hok : GOk g t := ⟨h.ok.nd, h.ok.tr, (List.nodup_cons.1 h.ok.tn).2, fun y hy => h.ok.tg y (List.mem_cons_of_mem _ hy)⟩
  have hxt := (List.nodup_cons.1 h.ok.tn).1
  have hxg := h.ok.tg x (by simp)
  obtain ⟨h1, h2, h3⟩ := see_fold (sideOf 0 x ps) g t hok
  obtain ⟨f1, f2⟩ := filter_inv h.inv x
  have key : ∀ y, (y ∈ ((sideOf 0 x ps).foldl seeStep (g, t)).1.map (·.1) ∧ y ∉ ((sideOf 0 x ps).foldl seeStep (g, t)).2) ↔ (y ∈ g.map (·.1) ∧ y ∉ x :: t) ∨ y = x := by
    intro y
    rw [h2, h3, List.mem_cons]
    constructor
    · rintro ⟨a | a, b⟩
      · by_cases hyx : y = x
        · exact .inr hyx
        · exact .inl ⟨a, fun c => c.elim hyx (fun c => b (.inl c))⟩
      · by_cases hyg : y ∈ g.map (·.1)
        · by_cases hyx : y = x
          · exact .inr hyx
          · exact .inl ⟨hyg, fun c => c.elim hyx (fun c => b (.inl c))⟩
        · exact absurd (.inr ⟨a, hyg⟩) b
    · rintro (⟨a, b⟩ | rfl)
      · exact ⟨.inl a, fun c => c.elim (fun c => b (.inr c)) (fun c => c.2 a)⟩
      · exact ⟨.inl hxg, fun c => c.elim hxt (fun c => c.2 hxg)⟩
  refine ⟨⟨f1, h1, ?_, (h2 id).2 (.inl h.first), ?_, ?_, Nat.le_trans (List.length_filter_le _ _) h.short⟩, key⟩
  · intro y hy
    rcases (h2 y).1 hy with a | a
    · exact h.rch y a
    · exact .step (h.rch x hxg) ((h.ed x y).1 ((hs.2 y).1 a)).1
  · intro p y
    rw [f2, h.ed, key]
    constructor
    · rintro ⟨⟨a, b⟩, c⟩
      exact ⟨a, fun d => d.elim b c⟩
    · rintro ⟨a, b⟩
      exact ⟨⟨a, fun c => b (.inl c)⟩, fun c => b (.inr c)⟩
  · intro p y hp hpt he
    rw [h2]
    rcases (key p).1 ⟨hp, hpt⟩ with ⟨a, b⟩ | rfl
    · exact .inl (h.closed p y a b he)
    · by_cases hy : y ∈ g.map (·.1)
      · exact .inl hy
      · refine .inr ((hs.2 y).2 ((h.ed p y).2 ⟨he, fun c => hy c.1⟩))

theorem kill_run (ps0 : Pairs) (id : Int) (hn : ps0.length ≤ 999999) : ∀ (f : Nat) (ps : Pairs) (ns : Nums) (g : Gone) (t : List Int), KInv ps0 id ps ns g t →
    ((allOf ps0 id).filter (fun y => ¬ (y ∈ g.map (·.1) ∧ y ∉ t))).length ≤ f → ∃ psF nsF gF, killRun f ps ns g t = some (psF, nsF, gF) ∧ KInv ps0 id psF nsF gF []
  | f, ps, ns, g, [], h, _ => ⟨ps, ns, g, by unfold killRun; cases f <;> rfl, h⟩
  | 0, ps, ns, g, x :: t, h, hf => by
    exfalso
    have hx : x ∈ (allOf ps0 id).filter (fun y => ¬ (y ∈ g.map (·.1) ∧ y ∉ x :: t)) := List.mem_filter.2 ⟨rch_all (h.rch x (h.ok.tg x (by simp))), by simp⟩
    have := List.length_pos_of_mem hx
    omega
  | f + 1, ps, ns, g, x :: t, h, hf => by
    obtain ⟨h1, h2⟩ := kill_step h
    have htl : t.length ≤ 1000000 := by
      have := nodup_sub_length (x :: t) (allOf ps0 id) h.ok.tn (fun y hy => rch_all (h.rch y (h.ok.tg y hy)))
      simp only [allOf, List.length_cons, List.length_map] at this
      omega
    have hlt : ((allOf ps0 id).filter (fun y => ¬ (y ∈ ((sideOf 0 x ps).foldl seeStep (g, t)).1.map (·.1) ∧ y ∉ ((sideOf 0 x ps).foldl seeStep (g, t)).2))).length <
        ((allOf ps0 id).filter (fun y => ¬ (y ∈ g.map (·.1) ∧ y ∉ x :: t))).length := by
      have hx : x ∈ allOf ps0 id := rch_all (h.rch x (h.ok.tg x (by simp)))
      refine filter_lt (fun y => decide (¬ (y ∈ g.map (·.1) ∧ y ∉ x :: t))) (fun y => decide (¬ (y ∈ ((sideOf 0 x ps).foldl seeStep (g, t)).1.map (·.1) ∧ y ∉ ((sideOf 0 x ps).foldl seeStep (g, t)).2))) ?_ x (by simp) ?_ _ hx
      · intro y hy
        simp only [decide_eq_true_eq] at hy ⊢
        exact fun c => hy ((h2 y).2 (.inl c))
      · rw [decide_eq_false_iff_not]
        exact fun c => c ((h2 x).2 (.inr rfl))
    obtain ⟨psF, nsF, gF, hr, hk⟩ := kill_run ps0 id hn f _ _ _ _ h1 (by omega)
    refine ⟨psF, nsF, gF, ?_, hk⟩
    unfold killRun
    rw [if_neg (by omega)]
    exact hr

theorem kill_spec {ps : Pairs} {ns : Nums} (h : Inv ps ns) (hn : ps.length ≤ 999999) (id : Int) :
    ∃ f psF nsF gF, killRun f ps ns [(id, true)] [id] = some (psF, nsF, gF) ∧ Inv psF nsF ∧ (∀ p x, Ed psF p x ↔ Ed ps p x ∧ ¬ Rch (Ed ps) id x) ∧ psF.length ≤ ps.length ∧ gF.length ≤ 1000000 ∧
      (∀ e ∈ gF, Rch (Ed ps) id e.1) ∧ SetList (sortI ((mdel gF id).map (·.1))) (fun x => Rch (Ed ps) id x ∧ x ≠ id) := by
  have h0 : KInv ps id ps ns [(id, true)] [id] := ⟨h, ⟨by simp, by simp, by simp, by simp⟩, by intro x hx; simp at hx; subst hx; exact .refl, by simp, fun p x => by simp, fun p x hp hpt => by simp at hp hpt; exact absurd hp hpt, Nat.le_refl _⟩
  obtain ⟨psF, nsF, gF, hr, hk⟩ := kill_run ps id hn _ ps ns _ _ h0 (Nat.le_refl _)
  have hall : ∀ x, x ∈ gF.map (·.1) ↔ Rch (Ed ps) id x := by
    intro x
    refine ⟨hk.rch x, fun hx => ?_⟩
    induction hx with
    | refl => exact hk.first
    | step _ he ih => exact hk.closed _ _ ih (by simp) he
  refine ⟨_, psF, nsF, gF, hr, hk.inv, fun p x => ?_, hk.short, ?_, fun e he => hk.rch _ (List.mem_map.2 ⟨e, he, rfl⟩), ?_⟩
  · rw [hk.ed, hall]; simp
  · have := nodup_sub_length _ (allOf ps id) hk.ok.nd (fun y hy => rch_all (hk.rch y hy))
    simp only [allOf, List.length_cons, List.length_map] at this
    omega
  · refine (sortI_set (mdel_nodup hk.ok.nd id)).congr fun x => ?_
    rw [← hall]
    unfold mdel
    simp only [List.mem_map, List.mem_filter]
    constructor
    · rintro ⟨e, ⟨he, h1⟩, h2⟩
      subst h2
      exact ⟨⟨e, he, rfl⟩, by simpa using h1⟩
    · rintro ⟨⟨e, he, h1⟩, h2⟩
      subst h1
      exact ⟨e, ⟨he, by simpa using h2⟩, rfl⟩

end Go.Proofs.Ytolihdcfhonfgaa
