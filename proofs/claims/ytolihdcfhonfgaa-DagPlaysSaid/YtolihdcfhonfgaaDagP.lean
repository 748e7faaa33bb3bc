/- Plain laws on package dag: what its pairs and numbers mean. No program here. -/
import Derived.Test.YtolihdcfhonfgaaDagF
namespace Go.Proofs.Ytolihdcfhonfgaa
open Go.RowKit
set_option linter.unusedSimpArgs false
set_option linter.unusedVariables false

/-- x waits for p. -/
def Ed (ps : Pairs) (p x : Int) : Prop := (p, x) ∈ ps.map (·.1)
def cnt (ps : Pairs) (x : Int) : Nat := (ps.filter (fun e => e.1.2 = x)).length
structure Inv (ps : Pairs) (ns : Nums) : Prop where
  nd : (ps.map (·.1)).Nodup
  nn : (ns.map (·.1)).Nodup
  tr : ∀ e ∈ ps, e.2 = true
  num : ∀ x, mget ns x = if cnt ps x = 0 then none else some (cnt ps x : Int)

theorem cnt_le (ps : Pairs) (x : Int) : cnt ps x ≤ ps.length := List.length_filter_le _ _
theorem cnt_zero {ps : Pairs} {x : Int} : cnt ps x = 0 ↔ ∀ p, ¬ Ed ps p x := by
  unfold cnt Ed
  rw [List.length_eq_zero_iff, List.filter_eq_nil_iff]
  constructor
  · intro h p hp
    obtain ⟨e, he, hpe⟩ := List.mem_map.1 hp
    exact h e he (by simp [hpe])
  · intro h e he hx
    simp only [decide_eq_true_eq] at hx
    exact h e.1.1 (List.mem_map.2 ⟨e, he, by rw [← hx]⟩)
theorem inv_nil : Inv [] [] := ⟨List.nodup_nil, List.nodup_nil, by simp, fun x => by simp [mget_nil, cnt]⟩

theorem ed_get {ps : Pairs} {ns : Nums} (h : Inv ps ns) (p x : Int) : (mget ps (p, x)).getD false = true ↔ Ed ps p x := by
  constructor
  · intro hg
    cases hm : mget ps (p, x) with
    | none => rw [hm] at hg; cases hg
    | some v => exact List.mem_map.2 ⟨_, mem_of_mget hm, rfl⟩
  · intro he
    obtain ⟨e, hem, hpe⟩ := List.mem_map.1 he
    have h1 := mget_of_mem h.nd (x := e.1) (v := e.2) hem
    rw [hpe] at h1
    rw [h1, h.tr e hem]; rfl

theorem wrap_small {z : Int} (h0 : 0 ≤ z) (h1 : z ≤ 2000000) : IntKind.i64.wrap z = z := IntWalk.i64_in _ (by omega)
theorem wrap64_small {z : Int} (h0 : -2 ≤ z) (h1 : z ≤ 2000000) : wrap64 z = z := by unfold wrap64; omega

/-! ### Add -/
theorem add_step {ps : Pairs} {ns : Nums} (h : Inv ps ns) (hn : ps.length ≤ 1000000) (id p : Int) :
    Inv (addStep id (ps, ns) p).1 (addStep id (ps, ns) p).2 ∧ (∀ q x, Ed (addStep id (ps, ns) p).1 q x ↔ Ed ps q x ∨ (q = p ∧ x = id)) ∧ (addStep id (ps, ns) p).1.length ≤ ps.length + 1 := by
  unfold addStep
  by_cases hg : (mget ps (p, id)).getD false = true
  · simp only [if_pos hg]
    refine ⟨h, fun q x => ⟨.inl, ?_⟩, Nat.le_succ _⟩
    rintro (h1 | ⟨rfl, rfl⟩)
    · exact h1
    · exact (ed_get h _ _).1 hg
  · simp only [if_neg hg]
    have hne : ¬ Ed ps p id := fun e => hg ((ed_get h _ _).2 e)
    have hput : mput ps (p, id) true = ps ++ [((p, id), true)] := by
      unfold mput
      rw [if_neg]
      intro ha
      obtain ⟨e, he, hpe⟩ := List.any_eq_true.1 ha
      simp only [decide_eq_true_eq] at hpe
      exact hne (List.mem_map.2 ⟨e, he, hpe⟩)
    have hc : ∀ x, cnt (mput ps (p, id) true) x = cnt ps x + if id = x then 1 else 0 := by
      intro x
      rw [hput]
      unfold cnt
      rw [List.filter_append, List.length_append]
      congr 1
      by_cases hx : id = x <;> simp [List.filter_cons, hx]
    have hv : ((mget ns id).getD 0 : Int) = cnt ps id := by
      rw [h.num id]
      by_cases h0 : cnt ps id = 0 <;> simp [h0]
    have hw : IntKind.i64.wrap ((mget ns id).getD 0 + 1) = (cnt ps id : Int) + 1 := by
      have := cnt_le ps id
      rw [hv, wrap_small (by omega) (by omega)]
    refine ⟨⟨mput_nodup h.nd _ _, mput_nodup h.nn _ _, ?_, ?_⟩, ?_, by rw [hput]; simp⟩
    · intro e he
      rw [hput, List.mem_append] at he
      rcases he with he | he
      · exact h.tr e he
      · simp only [List.mem_singleton] at he; rw [he]
    · intro x
      rw [mget_mput, hc, hw]
      by_cases hx : id = x
      · subst hx; simp
      · rw [if_neg hx, if_neg hx, h.num x]; simp
    · intro q x
      unfold Ed
      rw [hput, List.map_append, List.mem_append]
      simp [Prod.ext_iff]

theorem add_fold (id : Int) : ∀ (preds : List Int) (ps : Pairs) (ns : Nums), Inv ps ns → ps.length + preds.length ≤ 1000000 →
    Inv (preds.foldl (addStep id) (ps, ns)).1 (preds.foldl (addStep id) (ps, ns)).2 ∧ (∀ q x, Ed (preds.foldl (addStep id) (ps, ns)).1 q x ↔ Ed ps q x ∨ (q ∈ preds ∧ x = id)) ∧ (preds.foldl (addStep id) (ps, ns)).1.length ≤ ps.length + preds.length
  | [], ps, ns, h, _ => ⟨h, by simp, Nat.le_refl _⟩
  | p :: preds, ps, ns, h, hn => by
    simp only [List.length_cons] at hn
    obtain ⟨h1, h2, h3⟩ := add_step h (by omega) id p
    obtain ⟨g1, g2, g3⟩ := add_fold id preds _ _ h1 (by omega)
    rw [List.foldl_cons]
    refine ⟨g1, fun q x => ?_, Nat.le_trans g3 (by have : (p :: preds).length = preds.length + 1 := rfl; omega)⟩
    rw [g2, h2, List.mem_cons]
    constructor
    · rintro ((h | ⟨rfl, rfl⟩) | ⟨h, rfl⟩)
      · exact .inl h
      · exact .inr ⟨.inl rfl, rfl⟩
      · exact .inr ⟨.inr h, rfl⟩
    · rintro (h | ⟨rfl | h, rfl⟩)
      · exact .inl (.inl h)
      · exact .inl (.inr ⟨rfl, rfl⟩)
      · exact .inr ⟨h, rfl⟩

/-! ### lists of numbers that rise -/
def SetList (l : List Int) (P : Int → Prop) : Prop := l.Pairwise (· < ·) ∧ ∀ x, x ∈ l ↔ P x
theorem lt_nodup {l : List Int} (h : l.Pairwise (· < ·)) : l.Nodup := h.imp (fun h e => by omega)
theorem nodup_ext {α : Type} {l m : List α} (h1 : l.Nodup) (h2 : m.Nodup) (h : ∀ x, x ∈ l ↔ x ∈ m) : l.Perm m := (List.perm_ext_iff_of_nodup h1 h2).2 (fun a => h a)
theorem SetList.unique {l m : List Int} {P : Int → Prop} (h1 : SetList l P) (h2 : SetList m P) : l = m := by
  have hp := nodup_ext (lt_nodup h1.1) (lt_nodup h2.1) (fun x => (h1.2 x).trans (h2.2 x).symm)
  exact hp.eq_of_pairwise (fun a b _ _ h1 h2 => by omega) h1.1 h2.1
theorem SetList.congr {l : List Int} {P Q : Int → Prop} (h : SetList l P) (hq : ∀ x, P x ↔ Q x) : SetList l Q := ⟨h.1, fun x => (h.2 x).trans (hq x)⟩
theorem sortI_set {l : List Int} (hn : l.Nodup) : SetList (sortI l) (· ∈ l) := by
  have hp := sortI_perm l
  refine ⟨?_, fun x => hp.mem_iff⟩
  have h1 := sortI_sorted l
  have h2 : (sortI l).Nodup := hp.nodup_iff.2 hn
  exact (h1.and (List.nodup_iff_pairwise_ne.1 h2)).imp (fun ⟨a, b⟩ => by omega)

theorem sel0_nodup {ps : Pairs} (hd : (ps.map (·.1)).Nodup) (at' id : Int) (hat : at' = 0 ∨ at' = 1) : (sel at' id ps).Nodup := by
  unfold sel
  have h1 : ((ps.filter (fun p => atP at' p.1 = id)).map (·.1)).Nodup := hd.sublist ((List.filter_sublist).map _)
  rw [List.nodup_iff_pairwise_ne, List.pairwise_map] at h1 ⊢
  refine h1.imp_of_mem ?_
  intro a b ha hb hne e
  have ha' := (List.mem_filter.1 ha).2
  have hb' := (List.mem_filter.1 hb).2
  simp only [decide_eq_true_eq] at ha' hb'
  apply hne
  rcases hat with rfl | rfl
  · simp only [atP] at ha' hb' e
    exact Prod.ext (ha'.trans hb'.symm) e
  · simp only [atP] at ha' hb' e
    exact Prod.ext e (ha'.trans hb'.symm)

theorem side0_set {ps : Pairs} (hd : (ps.map (·.1)).Nodup) (id : Int) : SetList (sideOf 0 id ps) (fun x => Ed ps id x) := by
  refine (sortI_set (sel0_nodup hd 0 id (.inl rfl))).congr fun x => ?_
  unfold sel Ed atP
  simp only [List.mem_map, List.mem_filter, decide_eq_true_eq]
  constructor
  · rintro ⟨e, ⟨he, h1⟩, h2⟩
    exact ⟨e, he, Prod.ext h1 h2⟩
  · rintro ⟨e, he, h1⟩
    exact ⟨e, ⟨he, by simp [h1]⟩, by simp [h1]⟩
theorem side1_set {ps : Pairs} (hd : (ps.map (·.1)).Nodup) (id : Int) : SetList (sideOf 1 id ps) (fun p => Ed ps p id) := by
  refine (sortI_set (sel0_nodup hd 1 id (.inr rfl))).congr fun x => ?_
  unfold sel Ed atP
  simp only [List.mem_map, List.mem_filter, decide_eq_true_eq]
  constructor
  · rintro ⟨e, ⟨he, h1⟩, h2⟩
    exact ⟨e, he, Prod.ext h2 h1⟩
  · rintro ⟨e, he, h1⟩
    exact ⟨e, ⟨he, by simp [h1]⟩, by simp [h1]⟩

theorem cnt_list {ps : Pairs} (hd : (ps.map (·.1)).Nodup) {x : Int} {l : List Int} (hl : l.Nodup) (h : ∀ p, p ∈ l ↔ Ed ps p x) : cnt ps x = l.length := by
  have h1 := side1_set hd x
  have h2 : (sideOf 1 x ps).Perm l := nodup_ext (lt_nodup h1.1) hl (fun p => (h1.2 p).trans (h p).symm)
  rw [← h2.length_eq]
  unfold sideOf
  rw [sortI_length]
  simp [sel, atP, cnt]

/-! ### leave, Done -/
theorem filter_inv {ps : Pairs} {ns : Nums} (h : Inv ps ns) (x : Int) :
    Inv (ps.filter (fun e => !(e.1.2 == x))) (mdel ns x) ∧ (∀ q y, Ed (ps.filter (fun e => !(e.1.2 == x))) q y ↔ Ed ps q y ∧ y ≠ x) := by
  have hed : ∀ q y, Ed (ps.filter (fun e => !(e.1.2 == x))) q y ↔ Ed ps q y ∧ y ≠ x := by
    intro q y
    unfold Ed
    simp only [List.mem_map, List.mem_filter]
    constructor
    · rintro ⟨e, ⟨he, h1⟩, h2⟩
      refine ⟨⟨e, he, h2⟩, ?_⟩
      rw [h2] at h1
      simpa using h1
    · rintro ⟨⟨e, he, h1⟩, h2⟩
      exact ⟨e, ⟨he, by rw [h1]; simpa using h2⟩, h1⟩
  have hc : ∀ y, cnt (ps.filter (fun e => !(e.1.2 == x))) y = if x = y then 0 else cnt ps y := by
    intro y
    unfold cnt
    rw [List.filter_filter]
    by_cases hxy : x = y
    · subst hxy
      rw [if_pos rfl, List.length_eq_zero_iff, List.filter_eq_nil_iff]
      intro e _
      simp
    · rw [if_neg hxy]
      congr 1
      apply List.filter_congr
      intro e _
      by_cases he : e.1.2 = y
      · have : ¬ e.1.2 = x := fun c => hxy (c.symm.trans he)
        simp [he, Ne.symm hxy]
      · simp [he]
  refine ⟨⟨h.nd.sublist ((List.filter_sublist).map _), mdel_nodup h.nn x, fun e he => h.tr e (List.mem_filter.1 he).1, fun y => ?_⟩, hed⟩
  rw [mget_mdel, hc]
  by_cases hxy : x = y
  · simp [hxy]
  · rw [if_neg hxy, if_neg hxy, h.num y]

theorem mdel_pair {ps : Pairs} (hd : (ps.map (·.1)).Nodup) {p x : Int} (he : Ed ps p x) :
    (∀ q y, Ed (mdel ps (p, x)) q y ↔ Ed ps q y ∧ ¬ (q = p ∧ y = x)) ∧ (∀ y, cnt (mdel ps (p, x)) y = if x = y then cnt ps y - 1 else cnt ps y) ∧ (x = x → 0 < cnt ps x) := by
  have hpos : 0 < cnt ps x := by
    rcases Nat.eq_zero_or_pos (cnt ps x) with h | h
    · exact absurd he (cnt_zero.1 h p)
    · exact h
  refine ⟨?_, ?_, fun _ => hpos⟩
  · intro q y
    unfold Ed mdel
    simp only [List.mem_map, List.mem_filter]
    constructor
    · rintro ⟨e, ⟨hem, h1⟩, h2⟩
      refine ⟨⟨e, hem, h2⟩, ?_⟩
      rintro ⟨rfl, rfl⟩
      rw [h2] at h1
      simp at h1
    · rintro ⟨⟨e, hem, h1⟩, h2⟩
      refine ⟨e, ⟨hem, ?_⟩, h1⟩
      have hne : ¬ e.1 = (p, x) := fun c => h2 (by rw [h1] at c; exact ⟨congrArg Prod.fst c, congrArg Prod.snd c⟩)
      simpa using hne
  · intro y
    by_cases hxy : x = y
    · subst hxy
      rw [if_pos rfl]
      have h1 := side1_set hd x
      have h2 : cnt ps x = ((sideOf 1 x ps)).length := cnt_list hd (lt_nodup h1.1) h1.2
      have h3 : cnt (mdel ps (p, x)) x = ((sideOf 1 x ps).erase p).length := by
        refine cnt_list (mdel_nodup hd _) ((lt_nodup h1.1).erase p) ?_
        intro q
        rw [(lt_nodup h1.1).mem_erase_iff, h1.2]
        unfold Ed mdel
        simp only [List.mem_map, List.mem_filter]
        constructor
        · rintro ⟨hqp, e, hem, h4⟩
          refine ⟨e, ⟨hem, ?_⟩, h4⟩
          rw [h4]
          simpa [Prod.ext_iff] using hqp
        · rintro ⟨e, ⟨hem, h4⟩, h5⟩
          refine ⟨?_, e, hem, h5⟩
          rintro rfl
          rw [h5] at h4
          simp at h4
      rw [h3, List.length_erase_of_mem ((h1.2 p).2 he), h2]
    · rw [if_neg hxy]
      unfold cnt mdel
      rw [List.filter_filter]
      congr 1
      apply List.filter_congr
      intro e _
      by_cases hey : e.1.2 = y
      · have : ¬ e.1 = (p, x) := fun c => hxy (by rw [← hey, c])
        simp [hey, this]
      · simp [hey]

theorem done_step {ps : Pairs} {ns : Nums} (h : Inv ps ns) (hn : ps.length ≤ 1000000) {id x : Int} (he : Ed ps id x) (out : List Int) :
    Inv (doneStep id (ps, ns, out) x).1 (doneStep id (ps, ns, out) x).2.1 ∧ (∀ q y, Ed (doneStep id (ps, ns, out) x).1 q y ↔ Ed ps q y ∧ ¬ (q = id ∧ y = x)) ∧ (doneStep id (ps, ns, out) x).1.length ≤ ps.length ∧
      (doneStep id (ps, ns, out) x).2.2 = if cnt ps x = 1 then out ++ [x] else out := by
  obtain ⟨h1, h2, h3⟩ := mdel_pair h.nd he
  have hpos := h3 rfl
  have hle := cnt_le ps x
  have hv : wrap64 ((mget ns x).getD 0 - 1) = (cnt ps x : Int) - 1 := by
    rw [h.num x, if_neg (by omega)]
    exact wrap64_small (by simp only [Option.getD_some]; omega) (by simp only [Option.getD_some]; omega)
  have hlen : (mdel ps (id, x)).length ≤ ps.length := List.length_filter_le _ _
  unfold doneStep
  simp only [hv]
  by_cases h0 : cnt ps x = 1
  · rw [if_pos (by omega), if_pos h0]
    have hnx : ∀ q, ¬ Ed (mdel ps (id, x)) q x := cnt_zero.1 (by rw [h2, if_pos rfl]; omega)
    have hfl : (mdel ps (id, x)).filter (fun e => !(e.1.2 == x)) = mdel ps (id, x) := by
      rw [List.filter_eq_self]
      intro e hem
      have : e.1.2 ≠ x := fun c => hnx e.1.1 (List.mem_map.2 ⟨e, hem, by rw [← c]⟩)
      simpa using this
    rw [hfl]
    refine ⟨⟨mdel_nodup h.nd _, mdel_nodup (mput_nodup h.nn _ _) _, fun e hem => h.tr e (List.mem_filter.1 hem).1, fun y => ?_⟩, h1, hlen, rfl⟩
    rw [mget_mdel, mget_mput, h2]
    by_cases hxy : x = y
    · subst hxy; simp [h0]
    · simp only [if_neg hxy]; exact h.num y
  · rw [if_neg (by omega), if_neg h0]
    refine ⟨⟨mdel_nodup h.nd _, mput_nodup h.nn _ _, fun e hem => h.tr e (List.mem_filter.1 hem).1, fun y => ?_⟩, h1, hlen, rfl⟩
    rw [mget_mput, h2]
    by_cases hxy : x = y
    · subst hxy
      rw [if_pos rfl, if_pos rfl, if_neg (by omega)]
      congr 1; omega
    · simp only [if_neg hxy]; exact h.num y

theorem done_fold (id : Int) : ∀ (l : List Int) (ps : Pairs) (ns : Nums) (out : List Int), Inv ps ns → ps.length ≤ 1000000 → l.Nodup → (∀ x ∈ l, Ed ps id x) →
    Inv (l.foldl (doneStep id) (ps, ns, out)).1 (l.foldl (doneStep id) (ps, ns, out)).2.1 ∧ (∀ q y, Ed (l.foldl (doneStep id) (ps, ns, out)).1 q y ↔ Ed ps q y ∧ ¬ (q = id ∧ y ∈ l)) ∧ (l.foldl (doneStep id) (ps, ns, out)).1.length ≤ ps.length ∧
      (l.foldl (doneStep id) (ps, ns, out)).2.2 = out ++ l.filter (fun x => cnt ps x = 1)
  | [], ps, ns, out, h, _, _, _ => ⟨h, by simp, Nat.le_refl _, by simp⟩
  | x :: l, ps, ns, out, h, hn, hnd, hl => by
    obtain ⟨h1, h2, h3, h4⟩ := done_step h hn (hl x (by simp)) out
    rw [List.nodup_cons] at hnd
    have hne : ∀ y ∈ l, y ≠ x := fun y hy e => hnd.1 (e ▸ hy)
    obtain ⟨g1, g2, g3, g4⟩ := done_fold id l _ _ (doneStep id (ps, ns, out) x).2.2 h1 (by omega) hnd.2 (fun y hy => (h2 id y).2 ⟨hl y (List.mem_cons_of_mem _ hy), fun c => hne y hy c.2⟩)
    rw [List.foldl_cons]
    refine ⟨g1, ?_, Nat.le_trans g3 h3, ?_⟩
    · intro q y
      rw [g2, h2, List.mem_cons]
      constructor
      · rintro ⟨⟨a, b⟩, c⟩
        refine ⟨a, ?_⟩
        rintro ⟨rfl, rfl | hy⟩
        · exact b ⟨rfl, rfl⟩
        · exact c ⟨rfl, hy⟩
      · rintro ⟨a, b⟩
        exact ⟨⟨a, fun c => b ⟨c.1, .inl c.2⟩⟩, fun c => b ⟨c.1, .inr c.2⟩⟩
    · have hcn : ∀ y ∈ l, cnt (doneStep id (ps, ns, out) x).1 y = cnt ps y := by
        intro y hy
        have hs := side1_set h.nd y
        rw [cnt_list h.nd (lt_nodup hs.1) hs.2]
        refine cnt_list h1.nd (lt_nodup hs.1) ?_
        intro p
        rw [hs.2, h2]
        exact ⟨fun a => ⟨a, fun c => hne y hy c.2⟩, fun a => a.1⟩
      have hfe : l.filter (fun y => cnt (doneStep id (ps, ns, out) x).1 y = 1) = l.filter (fun y => cnt ps y = 1) := by
        apply List.filter_congr
        intro y hy
        rw [hcn y hy]
      rw [g4, hfe, h4, List.filter_cons]
      by_cases h0 : cnt ps x = 1 <;> simp [h0]

theorem cnt_one {ps : Pairs} (hd : (ps.map (·.1)).Nodup) {id x : Int} (he : Ed ps id x) : cnt ps x = 1 ↔ ∀ q, Ed ps q x → q = id := by
  have hs := side1_set hd x
  rw [cnt_list hd (lt_nodup hs.1) hs.2]
  constructor
  · intro h1 q hq
    have hq' := (hs.2 q).2 hq
    have hi' := (hs.2 id).2 he
    match hl : sideOf 1 x ps, h1 with
    | [a], _ =>
      rw [hl] at hq' hi'
      simp only [List.mem_singleton] at hq' hi'
      rw [hq', hi']
  · intro h1
    have hp : (sideOf 1 x ps).Perm [id] := nodup_ext (lt_nodup hs.1) (by simp) (fun q => by
      rw [hs.2, List.mem_singleton]
      exact ⟨h1 q, fun e => e ▸ he⟩)
    simpa using hp.length_eq

theorem done_spec {ps : Pairs} {ns : Nums} (h : Inv ps ns) (hn : ps.length ≤ 1000000) (id : Int) :
    Inv (dagDone ps ns id).1 (dagDone ps ns id).2.1 ∧ (∀ q y, Ed (dagDone ps ns id).1 q y ↔ Ed ps q y ∧ q ≠ id) ∧ (dagDone ps ns id).1.length ≤ ps.length ∧
      SetList (dagDone ps ns id).2.2 (fun x => Ed ps id x ∧ ∀ q, Ed ps q x → q = id) := by
  have hs := side0_set h.nd id
  obtain ⟨h1, h2, h3, h4⟩ := done_fold id (sideOf 0 id ps) ps ns [] h hn (lt_nodup hs.1) (fun x hx => (hs.2 x).1 hx)
  unfold dagDone
  refine ⟨h1, fun q y => ?_, h3, ?_, fun x => ?_⟩
  · rw [h2, hs.2]
    constructor
    · rintro ⟨a, b⟩
      exact ⟨a, fun c => b ⟨c, c ▸ a⟩⟩
    · rintro ⟨a, b⟩
      exact ⟨a, fun c => b c.1⟩
  · rw [h4, List.nil_append]
    exact hs.1.sublist List.filter_sublist
  · rw [h4, List.nil_append, List.mem_filter, hs.2]
    simp only [decide_eq_true_eq]
    exact ⟨fun ⟨a, b⟩ => ⟨a, (cnt_one h.nd a).1 b⟩, fun ⟨a, b⟩ => ⟨a, (cnt_one h.nd a).2 b⟩⟩

/-- How many wait. -/
theorem len_spec {ps : Pairs} {ns : Nums} (h : Inv ps ns) {l : List Int} (hl : l.Nodup) (hm : ∀ x, x ∈ l ↔ ∃ p, Ed ps p x) : ns.length = l.length := by
  have h1 : (ns.map (·.1)).Perm l := nodup_ext h.nn hl (fun x => by
    rw [hm]
    constructor
    · intro hx
      obtain ⟨e, he, rfl⟩ := List.mem_map.1 hx
      have h2 := mget_of_mem h.nn (x := e.1) (v := e.2) he
      rw [h.num] at h2
      by_cases h0 : cnt ps e.1 = 0
      · rw [if_pos h0] at h2; cases h2
      · refine Classical.byContradiction fun hc => h0 (cnt_zero.2 fun p hp => hc ⟨p, hp⟩)
    · rintro ⟨p, hp⟩
      have h2 := h.num x
      rw [if_neg (fun h0 => cnt_zero.1 h0 p hp)] at h2
      exact List.mem_map.2 ⟨_, mem_of_mget h2, rfl⟩)
  have := h1.length_eq
  simpa using this

end Go.Proofs.Ytolihdcfhonfgaa
