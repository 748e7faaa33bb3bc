/- The law DagOnce: what stands of the tasks. -/
import Derived.Test.YtolihdcfhonfgaaProg
import Derived.Test.YtolihdcfhonfgaaDagO1
namespace Go.Proofs.Ytolihdcfhonfgaa
open Go.RowKit
set_option linter.unusedSimpArgs false
set_option linter.unusedVariables false

def WOk (W : Nat → List Int) : Prop := ∀ b p, p ∈ W b → 1 ≤ p ∧ p < (b : Int)

/-- Ahead of task i. -/
structure OInv (W : Nat → List Int) (n i : Nat) (S : Nat → Int) (E : Int → Int → Prop) : Prop where
  e : ∀ p x, E p x ↔ (1 ≤ x ∧ x ≤ n ∧ S x.toNat = 0 ∧ p ∈ W x.toNat ∧ S p.toNat ≠ 3)
  i1 : ∀ b, 1 ≤ b → b ≤ n → S b = 0 → ∃ p, p ∈ W b ∧ S p.toNat ≠ 3
  i2 : ∀ b, 1 ≤ b → b ≤ n → S b = 1 → ∀ p, p ∈ W b → S p.toNat = 3
  i3 : ∀ b, 1 ≤ b → b < i → S b = 2 ∨ S b = 3
  i4 : ∀ b, i ≤ b → b ≤ n → S b = 0 ∨ S b = 1 ∨ S b = 2
  i5 : ∀ b, 1 ≤ b → b ≤ n → S b = 0 → ∀ p, p ∈ W b → S p.toNat ≠ 2

theorem OInv.start {W : Nat → List Int} {n : Nat} : OInv W n 1 (onS W n) (OnE W n) := by
  have h01 : ∀ b, onS W n b = 0 ∨ onS W n b = 1 := fun b => by unfold onS; split <;> simp
  have hz : ∀ b, 1 ≤ b → b ≤ n → (onS W n b = 0 ↔ W b ≠ []) := fun b h1 h2 => by
    unfold onS
    by_cases h : W b = [] <;> simp [h, h1, h2]
  refine ⟨fun p x => ?_, fun b h1 h2 h3 => ?_, fun b h1 h2 h3 p hp => ?_, fun b h1 h2 => by omega, fun b _ _ => ?_, fun b h1 h2 h3 p hp => ?_⟩
  · unfold OnE
    constructor
    · rintro ⟨h1, h2, h3⟩
      exact ⟨h1, h2, (hz _ (by omega) (by omega)).2 (fun h => by rw [h] at h3; simp at h3), h3, by have := h01 p.toNat; omega⟩
    · rintro ⟨h1, h2, h3, h4, h5⟩
      exact ⟨h1, h2, h4⟩
  · have hne := (hz b h1 h2).1 h3
    obtain ⟨p, hp⟩ := List.exists_mem_of_ne_nil _ hne
    exact ⟨p, hp, by have := h01 p.toNat; omega⟩
  · have hw : W b = [] := by
      refine Classical.byContradiction fun h => ?_
      have := (hz b h1 h2).2 h
      omega
    rw [hw] at hp
    simp at hp
  · have := h01 b
    omega
  · have := h01 p.toNat
    omega

section
variable {W : Nat → List Int} {n i : Nat} {S : Nat → Int} {E : Int → Int → Prop}

theorem OInv.now (hW : WOk W) (h : OInv W n i S E) (h1 : 1 ≤ i) (h2 : i ≤ n) : S i = 1 ∨ S i = 2 := by
  rcases h.i4 i (Nat.le_refl _) h2 with h0 | h0
  · obtain ⟨p, hp, hp3⟩ := h.i1 i h1 h2 h0
    have hpi := hW i p hp
    have := h.i3 p.toNat (by omega) (by omega)
    have := h.i5 i h1 h2 h0 p hp
    omega
  · exact h0

theorem OInv.skip (h : OInv W n i S E) (h1 : S i = 2) : OInv W n (i + 1) S E :=
  ⟨h.e, h.i1, h.i2, fun b hb1 hb2 => by
    by_cases hb : b = i
    · subst hb; exact .inl h1
    · exact h.i3 b hb1 (by omega), fun b hb1 hb2 => h.i4 b (by omega) hb2, h.i5⟩

theorem OInv.next (hW : WOk W) (h : OInv W n i S E) {p x : Int} (he : E p x) : 1 ≤ p ∧ p < x ∧ x ≤ n := by
  obtain ⟨h1, h2, h3, h4, h5⟩ := (h.e p x).1 he
  have := hW _ p h4
  omega

theorem OInv.rch (hW : WOk W) (h : OInv W n i S E) {x : Int} (hr : Rch E (i : Int) x) : x = i ∨ ((i : Int) < x ∧ x ≤ n ∧ S x.toNat = 0) := by
  have key : (i : Int) ≤ x := by
    induction hr with
    | refl => omega
    | step _ he ih => have := h.next hW he; omega
  cases hr with
  | refl => exact .inl rfl
  | step hr' he =>
    refine .inr ⟨?_, (h.next hW he).2.2, ((h.e _ _).1 he).2.2.1⟩
    have hn := h.next hW he
    have hk : ∀ y, Rch E (i : Int) y → (i : Int) ≤ y := fun y hy => by
      induction hy with
      | refl => omega
      | step _ he ih => have := h.next hW he; omega
    have := hk _ hr'
    omega

/-- The states behind a kill (u = 2) or a done (u = 1). -/
def onT (S : Nat → Int) (i : Nat) (u : Int) (l : List Int) (b : Nat) : Int := if (b : Int) ∈ l then u else if b = i then 3 else S b

theorem OInv.kill (hW : WOk W) (h : OInv W n i S E) (h1 : 1 ≤ i) (h2 : i ≤ n) (hs : S i = 1) {l : List Int} (hl : ∀ x, x ∈ l ↔ Rch E (i : Int) x ∧ x ≠ i) :
    OInv W n (i + 1) (onT S i 2 l) (fun p x => E p x ∧ ¬ Rch E (i : Int) x) := by
  have hil : (i : Int) ∉ l := fun hm => ((hl _).1 hm).2 rfl
  have hlx : ∀ x, x ∈ l → (i : Int) < x ∧ x ≤ n ∧ S x.toNat = 0 := fun x hx => by
    obtain ⟨hr, hne⟩ := (hl x).1 hx
    rcases h.rch hW hr with hr | hr
    · exact absurd hr hne
    · exact hr
  have hTi : onT S i 2 l i = 3 := by unfold onT; rw [if_neg hil, if_pos rfl]
  have hTl : ∀ b : Nat, (b : Int) ∈ l → onT S i 2 l b = 2 := fun b hb => by unfold onT; rw [if_pos hb]
  have hTo : ∀ b : Nat, (b : Int) ∉ l → b ≠ i → onT S i 2 l b = S b := fun b hb hbi => by unfold onT; rw [if_neg hb, if_neg hbi]
  have hT0 : ∀ b : Nat, onT S i 2 l b = 0 → (b : Int) ∉ l ∧ b ≠ i ∧ S b = 0 := fun b hb => by
    by_cases hbl : (b : Int) ∈ l
    · rw [hTl b hbl] at hb; omega
    · by_cases hbi : b = i
      · rw [hbi, hTi] at hb; omega
      · exact ⟨hbl, hbi, by rw [← hTo b hbl hbi]; exact hb⟩
  have hT3 : ∀ b : Nat, onT S i 2 l b = 3 ↔ b = i ∨ S b = 3 := fun b => by
    by_cases hbl : (b : Int) ∈ l
    · rw [hTl b hbl]
      have := hlx _ hbl
      simp only [Int.toNat_natCast] at this
      omega
    · by_cases hbi : b = i
      · rw [hbi, hTi]; simp
      · rw [hTo b hbl hbi]; omega
  refine ⟨fun p x => ?_, fun b hb1 hb2 hb0 => ?_, fun b hb1 hb2 hb0 p hp => ?_, fun b hb1 hb2 => ?_, fun b hb1 hb2 => ?_, fun b hb1 hb2 hb0 p hp => ?_⟩
  · constructor
    · rintro ⟨he, hr⟩
      obtain ⟨e1, e2, e3, e4, e5⟩ := (h.e p x).1 he
      have hxl : ((x.toNat : Nat) : Int) ∉ l := fun hm => hr (by
        have := ((hl _).1 hm).1
        rwa [Int.toNat_of_nonneg (by omega)] at this)
      have hxi : x.toNat ≠ i := fun hh => by rw [hh] at e3; omega
      have hpp := hW _ p e4
      refine ⟨e1, e2, by rw [hTo _ hxl hxi]; exact e3, e4, fun h3 => ?_⟩
      rcases (hT3 _).1 h3 with h3 | h3
      · apply hr
        have : p = (i : Int) := by omega
        subst this
        exact .step .refl he
      · exact e5 h3
    · rintro ⟨e1, e2, e3, e4, e5⟩
      obtain ⟨g1, g2, g3⟩ := hT0 _ e3
      rw [Int.toNat_of_nonneg (by omega)] at g1
      refine ⟨(h.e p x).2 ⟨e1, e2, g3, e4, fun h3 => e5 ((hT3 _).2 (.inr h3))⟩, fun hr => g1 ((hl x).2 ⟨hr, fun hx => g2 (by omega)⟩)⟩
  · obtain ⟨g1, g2, g3⟩ := hT0 _ hb0
    obtain ⟨p, hp, hp3⟩ := h.i1 b hb1 hb2 g3
    refine ⟨p, hp, fun h3 => ?_⟩
    rcases (hT3 _).1 h3 with h3 | h3
    · have hpp := hW _ p hp
      have hpi : p = (i : Int) := by omega
      subst hpi
      exact g1 ((hl _).2 ⟨.step .refl ((h.e _ _).2 ⟨by omega, by omega, by simpa using g3, by simpa using hp, hp3⟩), by omega⟩)
    · exact hp3 h3
  · have hbl : (b : Int) ∉ l := fun hm => by rw [hTl b hm] at hb0; omega
    have hbi : b ≠ i := fun hh => by rw [hh, hTi] at hb0; omega
    rw [hTo b hbl hbi] at hb0
    exact (hT3 _).2 (.inr (h.i2 b hb1 hb2 hb0 p hp))
  · by_cases hbi : b = i
    · rw [hbi, hTi]; omega
    · have := h.i3 b hb1 (by omega)
      by_cases hbl : (b : Int) ∈ l
      · rw [hTl b hbl]; omega
      · rw [hTo b hbl hbi]; exact this
  · have := h.i4 b (by omega) hb2
    by_cases hbl : (b : Int) ∈ l
    · rw [hTl b hbl]; omega
    · rw [hTo b hbl (by omega)]; exact this
  · obtain ⟨g1, g2, g3⟩ := hT0 _ hb0
    intro h3
    have hpp := hW _ p hp
    by_cases hpl : ((p.toNat : Nat) : Int) ∈ l
    · have hx := hlx _ hpl
      rw [Int.toNat_natCast] at hx
      have hr := ((hl _).1 hpl).1
      rw [Int.toNat_of_nonneg (by omega)] at hr
      exact g1 ((hl _).2 ⟨.step hr ((h.e _ _).2 ⟨by omega, by omega, by simpa using g3, by simpa using hp, by omega⟩), by omega⟩)
    · by_cases hpi : p.toNat = i
      · rw [hpi, hTi] at h3; omega
      · rw [hTo _ hpl hpi] at h3
        exact h.i5 b hb1 hb2 g3 p hp h3

theorem OInv.done (hW : WOk W) (h : OInv W n i S E) (h1 : 1 ≤ i) (h2 : i ≤ n) (hs : S i = 1) {l : List Int} (hl : ∀ x, x ∈ l ↔ E (i : Int) x ∧ ∀ q, E q x → q = i) :
    OInv W n (i + 1) (onT S i 1 l) (fun p x => E p x ∧ p ≠ i) := by
  have hlx : ∀ x, x ∈ l → (i : Int) < x ∧ x ≤ n ∧ S x.toNat = 0 ∧ (i : Int) ∈ W x.toNat := fun x hx => by
    obtain ⟨e1, e2, e3, e4, e5⟩ := (h.e _ _).1 ((hl x).1 hx).1
    exact ⟨(h.next hW ((hl x).1 hx).1).2.1, e2, e3, e4⟩
  have hil : (i : Int) ∉ l := fun hm => by have := hlx _ hm; omega
  have hTi : onT S i 1 l i = 3 := by unfold onT; rw [if_neg hil, if_pos rfl]
  have hTl : ∀ b : Nat, (b : Int) ∈ l → onT S i 1 l b = 1 := fun b hb => by unfold onT; rw [if_pos hb]
  have hTo : ∀ b : Nat, (b : Int) ∉ l → b ≠ i → onT S i 1 l b = S b := fun b hb hbi => by unfold onT; rw [if_neg hb, if_neg hbi]
  have hT0 : ∀ b : Nat, onT S i 1 l b = 0 → (b : Int) ∉ l ∧ b ≠ i ∧ S b = 0 := fun b hb => by
    by_cases hbl : (b : Int) ∈ l
    · rw [hTl b hbl] at hb; omega
    · by_cases hbi : b = i
      · rw [hbi, hTi] at hb; omega
      · exact ⟨hbl, hbi, by rw [← hTo b hbl hbi]; exact hb⟩
  have hT3 : ∀ b : Nat, onT S i 1 l b = 3 ↔ b = i ∨ S b = 3 := fun b => by
    by_cases hbl : (b : Int) ∈ l
    · rw [hTl b hbl]
      have := hlx _ hbl
      simp only [Int.toNat_natCast] at this
      omega
    · by_cases hbi : b = i
      · rw [hbi, hTi]; simp
      · rw [hTo b hbl hbi]; omega
  have hT2 : ∀ b : Nat, onT S i 1 l b = 2 → S b = 2 := fun b hb => by
    by_cases hbl : (b : Int) ∈ l
    · rw [hTl b hbl] at hb; omega
    · by_cases hbi : b = i
      · rw [hbi, hTi] at hb; omega
      · rw [← hTo b hbl hbi]; exact hb
  refine ⟨fun p x => ?_, fun b hb1 hb2 hb0 => ?_, fun b hb1 hb2 hb0 p hp => ?_, fun b hb1 hb2 => ?_, fun b hb1 hb2 => ?_, fun b hb1 hb2 hb0 p hp => ?_⟩
  · constructor
    · rintro ⟨he, hpi⟩
      obtain ⟨e1, e2, e3, e4, e5⟩ := (h.e p x).1 he
      have hpp := hW _ p e4
      have hxl : ((x.toNat : Nat) : Int) ∉ l := fun hm => hpi (by
        have := ((hl _).1 hm).2
        rw [Int.toNat_of_nonneg (by omega)] at this
        exact this p he)
      have hxi : x.toNat ≠ i := fun hh => by rw [hh] at e3; omega
      refine ⟨e1, e2, by rw [hTo _ hxl hxi]; exact e3, e4, fun h3 => ?_⟩
      rcases (hT3 _).1 h3 with h3 | h3
      · omega
      · exact e5 h3
    · rintro ⟨e1, e2, e3, e4, e5⟩
      obtain ⟨g1, g2, g3⟩ := hT0 _ e3
      refine ⟨(h.e p x).2 ⟨e1, e2, g3, e4, fun h3 => e5 ((hT3 _).2 (.inr h3))⟩, fun hpi => e5 ((hT3 _).2 (.inl (by omega)))⟩
  · obtain ⟨g1, g2, g3⟩ := hT0 _ hb0
    refine Classical.byContradiction fun hno => g1 ?_
    have hall : ∀ p, p ∈ W b → S p.toNat ≠ 3 → p = (i : Int) := fun p hp hp3 => by
      have hpp := hW _ p hp
      refine Classical.byContradiction fun hpi => hno ⟨p, hp, fun h3 => ?_⟩
      rcases (hT3 _).1 h3 with h3 | h3
      · omega
      · exact hp3 h3
    obtain ⟨p, hp, hp3⟩ := h.i1 b hb1 hb2 g3
    have hpi := hall p hp hp3
    subst hpi
    have hpp := hW _ _ hp
    refine (hl _).2 ⟨(h.e _ _).2 ⟨by omega, by omega, by simpa using g3, by simpa using hp, hp3⟩, fun q hq => ?_⟩
    obtain ⟨e1, e2, e3, e4, e5⟩ := (h.e _ _).1 hq
    rw [Int.toNat_natCast] at e4
    exact hall q e4 e5
  · by_cases hbl : (b : Int) ∈ l
    · have hpp := hW _ p hp
      refine Classical.byContradiction fun h3 => ?_
      have hne : S p.toNat ≠ 3 := fun hh => h3 ((hT3 _).2 (.inr hh))
      have hx := hlx _ hbl
      rw [Int.toNat_natCast] at hx
      have hpi := ((hl _).1 hbl).2 p ((h.e _ _).2 ⟨by omega, by omega, by simpa using hx.2.2.1, by simpa using hp, hne⟩)
      exact h3 ((hT3 _).2 (.inl (by omega)))
    · have hbi : b ≠ i := fun hh => by rw [hh, hTi] at hb0; omega
      rw [hTo b hbl hbi] at hb0
      exact (hT3 _).2 (.inr (h.i2 b hb1 hb2 hb0 p hp))
  · by_cases hbi : b = i
    · rw [hbi, hTi]; omega
    · have := h.i3 b hb1 (by omega)
      by_cases hbl : (b : Int) ∈ l
      · have hx := hlx _ hbl; omega
      · rw [hTo b hbl hbi]; exact this
  · have := h.i4 b (by omega) hb2
    by_cases hbl : (b : Int) ∈ l
    · rw [hTl b hbl]; omega
    · rw [hTo b hbl (by omega)]; exact this
  · obtain ⟨g1, g2, g3⟩ := hT0 _ hb0
    intro h3
    exact h.i5 b hb1 hb2 g3 p hp (hT2 _ h3)

theorem OInv.fin (hW : WOk W) (h : OInv W n (n + 1) S E) (p x : Int) : ¬ E p x := fun he => by
  obtain ⟨e1, e2, e3, e4, e5⟩ := (h.e p x).1 he
  have := h.i3 x.toNat (by omega) (by omega)
  omega
end
end Go.Proofs.Ytolihdcfhonfgaa
