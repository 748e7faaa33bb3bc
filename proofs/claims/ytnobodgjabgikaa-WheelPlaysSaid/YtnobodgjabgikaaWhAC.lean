/- The wheel and the reference's: what they tell is the same. -/
import Derived.Test.YtnobodgjabgikaaProg
import Derived.Test.YtnobodgjabgikaaWhAB
import Derived.Test.YtnobodgjabgikaaWhO
namespace Go.Proofs.Ytnobodgjabgikaa
open Go.RowKit Go.Sort
set_option linter.unusedSimpArgs false
set_option linter.unusedVariables false

section
variable {D : List (Int × Int)}
theorem refD_all (hD : (D.map (·.1)).Nodup) (id : Int) : refD (allD D) id = mget D id := by
  unfold refD
  cases hf : (allD D).find? (fun t => t.2 = id) with
  | some t =>
    have h1 := List.find?_some hf
    have h2 := mem_allD.1 (List.mem_of_find?_eq_some hf)
    simp only [decide_eq_true_eq] at h1
    rw [h1] at h2
    exact (mget_of_mem hD h2).symm
  | none =>
    symm
    refine mget_none.2 (fun p hp e => ?_)
    have := List.find?_eq_none.1 hf (p.2, p.1) (mem_allD.2 hp)
    simp [e] at this
theorem allD_ext {D' : List (Int × Int)} {L : List Tm} (hs : L.Pairwise tlt) (hD' : (D'.map (·.1)).Nodup) (h : ∀ t : Tm, t ∈ L ↔ (t.2, t.1) ∈ D') : L = allD D' :=
  tlt_eq_of_mem hs (allD_sorted hD') (fun t => by rw [h, mem_allD])
theorem add_same {id : Int} {due : Nat} {er : Int} {L' : List Tm} (hD : (D.map (·.1)).Nodup) (hD' : ((addD D id due).map (·.1)).Nodup) (h : RefAddTo (allD D) id due er L') : er = addE D id ∧ L' = allD (addD D id due) := by
  have key : ∀ {x : Int}, addE D id = x → x ≠ 0 → er = x → L' = allD D → er = addE D id ∧ L' = allD (addD D id due) := fun {x} h1 h2 h3 h4 => ⟨by rw [h3, h1], by rw [h4]; unfold addD; rw [h1, if_neg h2]⟩
  rcases h with ⟨h1, h2, h3⟩ | ⟨h1, h2, h3, h4⟩ | ⟨h1, h2, h3, h4, h5⟩ | ⟨h1, h2, h3, h4, h5⟩
  · exact key (by unfold addE; rw [if_pos h1]) (by decide) h2 h3
  · rw [refD_all hD] at h2
    exact key (by unfold addE; rw [if_neg (by omega), if_pos h2]) (by decide) h3 h4
  · rw [refD_all hD] at h2
    rw [allD_len] at h3
    exact key (by unfold addE; rw [if_neg (by omega), h2, if_neg (by simp), if_pos h3]) (by decide) h4 h5
  · rw [refD_all hD] at h2
    rw [allD_len] at h3
    have he : addE D id = 0 := by unfold addE; rw [if_neg (by omega), h2, if_neg (by simp), if_neg (by omega)]
    refine ⟨by rw [h4, he], allD_ext h5.1 hD' (fun t => ?_)⟩
    rw [h5.2, mem_allD]
    unfold addD
    rw [he, if_pos rfl, List.mem_append, List.mem_singleton]
    constructor
    · rintro (rfl | h)
      · exact .inr rfl
      · exact .inl h
    · rintro (h | h)
      · exact .inr h
      · have e1 := (Prod.mk.inj h).1; have e2 := (Prod.mk.inj h).2
        exact .inl (Prod.ext e2 e1)
theorem can_same {id : Int} {L' : List Tm} (hD : (D.map (·.1)).Nodup) (h : RefCanTo (allD D) id L') : L' = allD (mdel D id) := by
  rcases h with ⟨h1, h2⟩ | ⟨i, hi, h1, h2, h3, h4⟩
  · rw [refD_all hD] at h1
    rw [h2, mdel_none h1]
  · have hs := allD_sorted hD
    have e : L' = (allD D).eraseIdx i := by rw [h4, List.eraseIdx_eq_take_drop_succ]
    refine allD_ext (by rw [e]; exact hs.sublist (List.eraseIdx_sublist ..)) (mdel_nodup hD id) (fun t => ?_)
    rw [e, mem_eraseIdx_nd (tlt_nodup hs) hi, mem_allD]
    unfold mdel
    rw [List.mem_filter]
    have hi' := mem_allD.1 (List.getElem_mem hi)
    constructor
    · rintro ⟨h5, h6⟩
      refine ⟨h5, ?_⟩
      simp only [decide_not, Bool.not_eq_true', decide_eq_false_iff_not]
      intro e2
      rw [h1] at hi'
      rw [e2] at h5
      have := mget_of_mem hD h5
      rw [mget_of_mem hD hi'] at this
      exact h6 (Prod.ext (Option.some.inj this).symm (by rw [e2, h1]))
    · rintro ⟨h5, h6⟩
      refine ⟨h5, fun e2 => ?_⟩
      simp only [decide_not, Bool.not_eq_true', decide_eq_false_iff_not] at h6
      exact h6 (by rw [e2]; exact h1)
theorem adv_same {T k : Nat} (hD : (D.map (·.1)).Nodup) (hk : k ≤ (allD D).length) (hlow : ∀ q (h : q < (allD D).length), q < k → ((allD D)[q]).1 ≤ (T : Int)) (hhigh : ∀ h : k < (allD D).length, (T : Int) < ((allD D)[k]).1) :
    TolD D T ((allD D).take k) ∧ (allD D).drop k = allD (lateD D T) := by
  have hs := allD_sorted hD
  have h1 : ∀ t ∈ (allD D).take k, t.1 ≤ (T : Int) := fun t ht => by
    obtain ⟨q, hq, rfl⟩ := List.mem_iff_getElem.1 ht
    rw [List.length_take] at hq
    rw [List.getElem_take]
    exact hlow q (by omega) (by omega)
  have h2 : ∀ t ∈ (allD D).drop k, (T : Int) < t.1 := fun t ht => by
    obtain ⟨q, hq, rfl⟩ := List.mem_iff_getElem.1 ht
    rw [List.length_drop] at hq
    rw [List.getElem_drop]
    have h3 := hhigh (by omega)
    by_cases hq0 : q = 0
    · subst hq0; exact h3
    · have := List.pairwise_iff_getElem.1 hs k (k + q) (by omega) (by omega) (by omega)
      unfold tlt at this; omega
  have hcut : ∀ t, t ∈ allD D ↔ t ∈ (allD D).take k ∨ t ∈ (allD D).drop k := fun t => by rw [← List.mem_append, List.take_append_drop]
  have hget : ∀ t : Tm, t ∈ allD D ↔ mget D t.2 = some t.1 := fun t => by
    rw [mem_allD]
    exact ⟨fun h => mget_of_mem hD h, fun h => mem_of_mget h⟩
  refine ⟨⟨hs.sublist (List.take_sublist _ _), fun t => ?_⟩, allD_ext (hs.sublist (List.drop_sublist _ _)) (lateD_nodup hD T) (fun t => ?_)⟩
  · rw [← hget, hcut]
    constructor
    · intro h; exact ⟨.inl h, h1 t h⟩
    · rintro ⟨h | h, h3⟩
      · exact h
      · have := h2 t h; omega
  · unfold lateD
    rw [List.mem_filter, ← mem_allD, hcut, decide_eq_true_iff]
    constructor
    · intro h; exact ⟨.inr h, h2 t h⟩
    · rintro ⟨h | h, h3⟩
      · have h4 := h1 t h
        have h5 : (T : Int) < t.1 := h3
        omega
      · exact h
end

/-- Both stand alike. -/
structure Pair (w : World) (W : Wh) (bx : Nat) (gx : Option Nat) : Prop where
  good : Good w W
  ref : RefW w bx W.now (allD W.due) gx
  nb : ¬ W.own bx
  ng : ∀ q, gx = some q → ¬ W.own q
theorem Pair.keep {F : Nat → Prop} {w w' : World} {W : Wh} {bx : Nat} {gx : Option Nat} (h : Pair w W bx gx) (x : Ext F w w') (h1 : ∀ q, W.own q → ¬ F q) (h2 : ¬ F bx) (h3 : ∀ q, gx = some q → ¬ F q) : Pair w' W bx gx :=
  ⟨h.good.keep x h1, h.ref.keep x h2 h3, h.nb, h.ng⟩

set_option maxRecDepth 100000 in
set_option maxHeartbeats 8000000 in
theorem same_calls (W : Wh) {b bx : Nat} {gx : Option Nat} (hb : W.b = b) (id : Int) (w : World) (h : Pair w W bx gx) :
    Calls Try.prog 21 #[.pointer (some ⟨b, 0, none⟩), .pointer (some ⟨bx, 0, none⟩), .int .i64 id] w fun e w' => e = .returned (.bool true) ∧ Ext NoB w w' := by
  have hA := h.good
  have hR := h.ref
  have hnd := Lib.hid h.good.inv.nd
  have hb' := Lib.hid hb
  have hrd := Lib.hid (refD_all h.good.inv.nd id)
  have hlen := Lib.hid (allD_len W.due)
  clear h hb
  go_enter Try.func21, Try.ntmps21
  go_wp2_with fail
  refine (dueG W hb'.out id w hA).mono ?_
  rintro e w1 ⟨rfl, x1⟩
  have hR1 := hR.keep x1 nb (fun _ _ => nb)
  go_wp2_with fail
  refine (refDue_calls bx W.now (allD W.due) gx id w1 hR1).mono ?_
  rintro e w1' ⟨rfl, rfl⟩
  rw [hrd.out]
  generalize (mget W.due id).getD 0 = dv at *
  generalize (mget W.due id).isSome = ok at *
  clear hrd
  go_wp2_with fail
  refine (next_calls W hb'.out w1 (hA.keep x1 (fun _ _ => nb))).mono ?_
  rintro e w2 ⟨rfl, x2⟩
  have hA2 := (hA.keep x1 (fun _ _ => nb)).keep x2 (fun _ _ => nb)
  have hR2 := hR1.keep x2 nb (fun _ _ => nb)
  have hx2 := x1.trans x2 (fun _ _ e => e)
  rw [← hlen.out]
  generalize hL : allD W.due = L at *
  have hL' := Lib.hid hL
  clear hL hR hR1 hA x1 x2
  have hnv : Hid (∀ h : 0 < L.length, nextV L = L[0].1) := fun h => by unfold nextV; rw [List.getElem?_eq_getElem h]
  generalize nextV L = nv at *
  obtain ⟨A, c, b', o, h1, h2, h3, h4, h5, h6⟩ := hR2
  have hle := h2.le
  have hmx := h2.max
  unfold maxLen at hmx
  have hc0 : w2.cell? ⟨bx, 0, none⟩ = some (.int .u64 W.now) := by rw [cell_of_row w2 bx 0 _ _ (0, 0) h1]; rfl
  have hc1 : w2.cell? ⟨bx, 1, none⟩ = some (.slice A L.length c) := by rw [cell_of_row w2 bx 1 _ _ (0, 0) h1]; rfl
  have hAd := hA2.keep (Ext.refl NoB w2).drew (fun _ _ => nb)
  have t0 : (decide (0 < L.length) != decide (0 < L.length)) = false := by simp
  go_wp2_with fail
  go_region_held3 (fun w' => w'.cell? ⟨bx, 0, none⟩ = some (.int .u64 W.now) ∧ w'.cell? ⟨bx, 1, none⟩ = some (.slice A L.length c)) (first
    | exact ⟨hc0, hc1⟩
    | exact ⟨y1.cell hc0 nb, y1.cell hc1 nb⟩
    | exact ⟨y2.cell (y1.cell hc0 nb) nb, y2.cell (y1.cell hc1 nb) nb⟩) (first
    | (go_at_call 13; (with_reducible refine (nowG W hb'.out rfl _ hAd).mono ?_); rintro e u0 ⟨rfl, rfl⟩)
    | (go_at_call 12; (with_reducible refine (lenG W hb'.out hlen.out.symm _ hAd).mono ?_); rintro e u0 ⟨rfl, rfl⟩)
    | (go_at_call 35; (with_reducible refine (all_calls W hb'.out _ hAd).mono ?_); rintro e u1 ⟨v1, g1, rfl, hO1, y1, hg1⟩; rw [hL'.out] at hO1; obtain ⟨A1, c1, b1, o1, rfl, hr1, hgr1⟩ := hO1.read)
    | (go_at_call 19; (with_reducible refine (sameT_calls A1 c1 b1 o1 L A c b' o L u1 hr1 ((h2.keep (Ext.refl NoB w2).drew nb1).keep y1 nb1) rfl).mono ?_); rintro e u2 ⟨rfl, y2⟩))
  have yy : Ext NoB w2 u2 := ((Ext.refl NoB w2).drew.trans y1 (fun _ _ e => e)).trans y2 (fun _ _ e => e)
  have d1 := yy.cell hc1 nb
  have hry := h2.keep yy nb1
  have hend := hx2.trans yy (fun _ _ e => e)
  clear hc0 hc1 hr1 hO1 hgr1 hg1 y1 y2 hAd h1 h2
  by_cases hp : 0 < L.length
  · have t1 : decide (0 < L.length) = true := by simp [hp]
    obtain rfl := hry.addr hp
    have e0 := hry.cell timerE_len 0 L[0] (List.getElem?_eq_getElem hp) 0 _ rfl
    simp only [Nat.zero_mul, Nat.add_zero] at e0
    rw [← hnv.out hp] at e0
    go_wp2_with fail
    go_ret
    exact ⟨rfl, hend⟩
  · have t1 : decide (0 < L.length) = false := decide_eq_false hp
    go_wp2_with fail
    go_ret
    exact ⟨rfl, hend⟩

end Go.Proofs.Ytnobodgjabgikaa
