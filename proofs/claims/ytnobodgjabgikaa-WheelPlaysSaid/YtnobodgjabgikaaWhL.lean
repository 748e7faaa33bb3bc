/- The wheel: the plain law, on the way of an Advance. -/
import Derived.Test.YtnobodgjabgikaaProg
import Derived.Test.YtnobodgjabgikaaWhK
namespace Go.Proofs.Ytnobodgjabgikaa
open Go.RowKit Go.Sort
set_option linter.unusedSimpArgs false
set_option linter.unusedVariables false

/-- What is left in the levels below l stands where the new tick says. -/
def Lft (to : Nat) (l : Int) (sl : List (Spt × SlC)) : Prop := ∀ s t, t ∈ slotOf sl s → s.1 < l → whereS to t.1.toNat = s

theorem where_lev (now due : Nat) : (due ≤ now ∧ whereS now due = (-1, 0)) ∨ (now < due ∧ whereS now due = (4, 0) ∧ due / 16777216 ≠ now / 16777216) ∨ (now < due ∧ ∃ lv : Int, ∃ d : Nat, 0 ≤ lv ∧ lv ≤ 3 ∧ whereS now due = (lv, (d : Int))) := by
  by_cases h1 : due ≤ now
  · exact .inl ⟨h1, by unfold whereS; rw [if_pos h1]⟩
  have h1' : now < due := by omega
  by_cases a0 : due / 64 = now / 64
  · exact .inr (.inr ⟨h1', 0, _, by omega, by omega, where_of0 h1' a0⟩)
  by_cases a1 : due / 4096 = now / 4096
  · exact .inr (.inr ⟨h1', 1, _, by omega, by omega, where_of1 h1' a0 a1⟩)
  by_cases a2 : due / 262144 = now / 262144
  · exact .inr (.inr ⟨h1', 2, _, by omega, by omega, where_of2 h1' a1 a2⟩)
  by_cases a3 : due / 16777216 = now / 16777216
  · exact .inr (.inr ⟨h1', 3, _, by omega, by omega, where_of3 h1' a2 a3⟩)
  · exact .inr (.inl ⟨h1', where_of4 h1' a3, a3⟩)

theorem lft_late {W : Wh} (hI : Inv W []) (to : Nat) : Lft to 0 (mdel W.sl (-1, 0)) := fun s t ht hs => by
  rw [slotOf_mdel] at ht
  split at ht
  · cases ht
  · rename_i hne
    have hw := ((hI.mem s t).1 ht).2.2
    rcases where_lev W.now t.1.toNat with ⟨_, e⟩ | ⟨_, e, _⟩ | ⟨_, lv, d, h0, _, e⟩
    · rw [e] at hw; exact absurd hw hne
    · rw [e] at hw; rw [← hw] at hs; exact absurd hs (by decide)
    · rw [e] at hw; rw [← hw] at hs; exact absurd hs (by simp; omega)

theorem lft_pass {W : Wh} {sl : List (Spt × SlC)} {mv : List Tm} {to k : Nat} (hI : Inv W []) (hP : Part W sl mv) (hnt : W.now ≤ to) (hto : to < 18446744073709551616) (hk : k ≤ 64) (lv : Int) (D : Nat)
    (hD : (lv = 0 ∧ D = 1) ∨ (lv = 1 ∧ D = 64) ∨ (lv = 2 ∧ D = 4096) ∨ (lv = 3 ∧ D = 262144)) (hst : k = 64 ∨ to / D < (W.now / D + 1 + k) % 18446744073709551616) (hL : Lft to lv sl) : Lft to (lv + 1) (passL sl lv (W.now / D + 1) k) := fun s t ht hs => by
  obtain ⟨h1, h2⟩ := pass_sub k ht
  by_cases hlt : s.1 < lv
  · exact hL s t h1 hlt
  have hsl : s.1 = lv := by omega
  have hm := hP.sub s t h1
  have hw := ((hI.mem s t).1 hm).2.2
  have hb := hI.sbnd hm
  have hbn : t.1.toNat < 18446744073709551616 := by omega
  obtain ⟨d, hd⟩ : ∃ d : Nat, s = (lv, (d : Int)) := by
    rcases where_lev W.now t.1.toNat with ⟨_, e⟩ | ⟨_, e, _⟩ | ⟨_, lv', d, _, _, e⟩
    · rw [e] at hw; rw [← hw] at hsl; simp at hsl; omega
    · rw [e] at hw; rw [← hw] at hsl; simp at hsl; omega
    · rw [e] at hw; rw [← hw] at hsl; simp at hsl; exact ⟨d, by rw [← hw, hsl]⟩
  subst hd
  rcases hD with ⟨rfl, rfl⟩ | ⟨rfl, rfl⟩ | ⟨rfl, rfl⟩ | ⟨rfl, rfl⟩
  · exact where_left0 _ to _ d k hnt hto hbn hw hk hst h2
  · exact where_left1 _ to _ d k hnt hto hbn hw hk hst h2
  · exact where_left2 _ to _ d k hnt hto hbn hw hk hst h2
  · exact where_left3 _ to _ d k hnt hto hbn hw hk hst h2

theorem part_near {W : Wh} {sl : List (Spt × SlC)} {mv : List Tm} (hI : Inv W []) (h : Part W sl mv) (s : Spt) (n : Nat) {e' : SlC} (he : e'.xs = (slotOf sl s).drop n) : Part W (mput sl s e') (mv ++ (slotOf sl s).take n) := by
  have hcut := List.take_append_drop n (slotOf sl s)
  have hnd : ((slotOf sl s).take n ++ (slotOf sl s).drop n).Nodup := by rw [hcut]; exact tlt_nodup (h.srt s)
  obtain ⟨n1, n2, n3⟩ := List.nodup_append.1 hnd
  have hsl : ∀ s' t, t ∈ slotOf (mput sl s e') s' → t ∈ slotOf sl s' ∧ (s = s' → t ∈ (slotOf sl s).drop n) := fun s' t ht => by
    rw [slotOf_mput, he] at ht
    split at ht
    · rename_i hs; subst hs; exact ⟨List.mem_of_mem_drop ht, fun _ => ht⟩
    · rename_i hs; exact ⟨ht, fun e => absurd e hs⟩
  refine ⟨fun s' t ht => h.sub s' t (hsl s' t ht).1, fun s' t ht => ?_, fun s' t ht => ?_, fun t ht => ?_, ?_, fun s' => ?_⟩
  · rw [List.mem_append, slotOf_mput, he]
    rcases h.cov s' t ht with h1 | h1
    · exact .inl (.inl h1)
    · by_cases hs : s = s'
      · subst hs
        rw [if_pos rfl]
        rw [← hcut, List.mem_append] at h1
        exact h1.elim (fun h => .inl (.inr h)) .inr
      · rw [if_neg hs]; exact .inr h1
  · obtain ⟨h1, h2⟩ := hsl s' t ht
    rw [List.mem_append, not_or]
    refine ⟨h.apart s' t h1, fun h3 => ?_⟩
    have hs := hI.slot_eq (h.sub s t (List.mem_of_mem_take h3)) (h.sub s' t h1)
    exact n3 t h3 t (h2 hs) rfl
  · rw [List.mem_append] at ht
    exact ht.elim (h.org t) (fun h1 => ⟨s, h.sub s t (List.mem_of_mem_take h1)⟩)
  · exact List.nodup_append.2 ⟨h.nd, n1, fun a ha b hb e => h.apart s b (List.mem_of_mem_take hb) (e ▸ ha)⟩
  · rw [slotOf_mput, he]
    split
    · exact (h.srt s).sublist (List.drop_sublist _ _)
    · exact h.srt s'

theorem lft_near {W : Wh} {sl : List (Spt × SlC)} {mv : List Tm} {to n : Nat} (hI : Inv W []) (hP : Part W sl mv) (hto : to < 18446744073709551616) (hL : Lft to 4 sl) {e' : SlC} (he : e'.xs = (slotOf sl (4, 0)).drop n)
    (hn : ∀ h : n < (slotOf sl (4, 0)).length, nearB to (slotOf sl (4, 0))[n] = false) : ∀ s t, t ∈ slotOf (mput sl (4, 0) e') s → whereS to t.1.toNat = s := fun s t ht => by
  rw [slotOf_mput, he] at ht
  by_cases hs : (4, 0) = s
  · rw [if_pos hs] at ht
    subst hs
    obtain ⟨j, hj, rfl⟩ := List.mem_iff_getElem.1 ht
    rw [List.length_drop] at hj
    have hn' := hn (by omega)
    rw [List.getElem_drop]
    have hb1 := hI.sbnd (hP.sub _ _ (List.getElem_mem (show n + j < (slotOf sl (4, 0)).length by omega)))
    have hb0 := hI.sbnd (hP.sub _ _ (List.getElem_mem (show n < (slotOf sl (4, 0)).length by omega)))
    have hle : (slotOf sl (4, 0))[n].1 ≤ (slotOf sl (4, 0))[n + j].1 := by
      by_cases hj0 : j = 0
      · subst hj0; exact Int.le_refl _
      · have := List.pairwise_iff_getElem.1 (hP.srt (4, 0)) n (n + j) (by omega) (by omega) (by omega)
        unfold tlt at this; omega
    unfold nearB at hn'
    simp only [decide_eq_false_iff_not] at hn'
    generalize (slotOf sl (4, 0))[n] = u at *
    generalize (slotOf sl (4, 0))[n + j] = v at *
    exact where_of4 (by omega) (by omega)
  · rw [if_neg hs] at ht
    refine hL s t ht ?_
    have hw := ((hI.mem s t).1 (hP.sub s t ht)).2.2
    rcases where_lev W.now t.1.toNat with ⟨_, e⟩ | ⟨_, e, _⟩ | ⟨_, lv', d, h0, h3, e⟩
    · rw [← hw, e]; decide
    · rw [e] at hw; exact absurd hw hs
    · rw [← hw, e]; show lv' < 4; omega

theorem inv_move {W : Wh} {sl : List (Spt × SlC)} {mv : List Tm} {to : Nat} (hI : Inv W []) (hP : Part W sl mv) (hw : ∀ s t, t ∈ slotOf sl s → whereS to t.1.toNat = s) : Inv { W with now := to, sl := sl } mv := by
  have hin : ∀ t : Tm, mget W.due t.2 = some t.1 → t ∉ mv → ∃ s, t ∈ slotOf sl s ∧ whereS W.now t.1.toNat = s := fun t h1 h2 => by
    have := (hI.mem (whereS W.now t.1.toNat) t).2 ⟨h1, List.not_mem_nil, rfl⟩
    rcases hP.cov _ t this with h3 | h3
    · exact absurd h3 h2
    · exact ⟨_, h3, rfl⟩
  refine ⟨hI.pos, hI.few, hI.nd, hP.srt, fun s t => ⟨fun h => ⟨((hI.mem s t).1 (hP.sub s t h)).1, hP.apart s t h, hw s t h⟩, ?_⟩, fun t ht => ?_, fun id d hd hn => ?_⟩
  · rintro ⟨h1, h2, h3⟩
    obtain ⟨s0, h4, _⟩ := hin t h1 h2
    have h5 := hw s0 t h4
    have h3' : whereS to t.1.toNat = s := h3
    rw [h3'] at h5
    rw [h5]; exact h4
  · obtain ⟨s, hs⟩ := hP.org t ht
    exact ((hI.mem s t).1 hs).1
  · obtain ⟨s0, h4, h5⟩ := hin (d, id) hd hn
    have h6 := hw s0 (d, id) h4
    show mget W.at' id = some (whereS to d.toNat)
    rw [hI.at' id d hd List.not_mem_nil]
    rw [show whereS to d.toNat = s0 from h6, show whereS W.now d.toNat = s0 from h5]

end Go.Proofs.Ytnobodgjabgikaa
