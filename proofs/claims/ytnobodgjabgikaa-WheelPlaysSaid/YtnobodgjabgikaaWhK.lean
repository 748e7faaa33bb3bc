/- The wheel: the plain law, what a wheel holds. -/
import Derived.Test.YtnobodgjabgikaaProg
import Derived.Test.YtnobodgjabgikaaWhJ
namespace Go.Proofs.Ytnobodgjabgikaa
open Go.RowKit Go.Sort
set_option linter.unusedSimpArgs false
set_option linter.unusedVariables false

/-- The timers of a slot. -/
def slotOf (sl : List (Spt × SlC)) (s : Spt) : List Tm := ((mget sl s).getD noSl).xs

theorem insAt_sorted {xs : List Tm} {t : Tm} {i : Nat} (hs : xs.Pairwise tlt) (h : Spot xs t i) (hn : t ∉ xs) : (insAt xs i t).Pairwise tlt := by
  have ht : ∀ a ∈ xs.take i, tlt a t := fun a ha => by
    obtain ⟨j, hj, rfl⟩ := List.mem_iff_getElem.1 ha
    rw [List.length_take] at hj
    rw [List.getElem_take]
    exact h.low j (by omega) (by omega)
  have hd : ∀ a ∈ xs.drop i, tlt t a := fun a ha => by
    obtain ⟨j, hj, rfl⟩ := List.mem_iff_getElem.1 ha
    rw [List.length_drop] at hj
    rw [List.getElem_drop]
    exact Classical.byContradiction fun hc => hn (by rw [tlt_tri hc (h.high (i + j) (by omega) (by omega))]; exact List.getElem_mem _)
  unfold insAt
  rw [List.append_assoc, List.pairwise_append]
  refine ⟨hs.sublist (List.take_sublist _ _), ?_, ?_⟩
  · rw [List.singleton_append, List.pairwise_cons]
    exact ⟨hd, hs.sublist (List.drop_sublist _ _)⟩
  · intro a ha b hb
    rw [List.singleton_append, List.mem_cons] at hb
    rcases hb with rfl | hb
    · exact ht a ha
    · exact tlt_trans (ht a ha) (hd b hb)

structure Inv (W : Wh) (M : List Tm) : Prop where
  pos : ∀ e ∈ W.due, 0 ≤ e.2 ∧ e.2 < 18446744073709551616
  few : W.due.length ≤ 1000
  nd : (W.due.map (·.1)).Nodup
  srt : ∀ s, (slotOf W.sl s).Pairwise tlt
  mem : ∀ s t, t ∈ slotOf W.sl s ↔ mget W.due t.2 = some t.1 ∧ t ∉ M ∧ whereS W.now t.1.toNat = s
  fly : ∀ t ∈ M, mget W.due t.2 = some t.1
  at' : ∀ id d, mget W.due id = some d → (d, id) ∉ M → mget W.at' id = some (whereS W.now d.toNat)

theorem slotOf_mdel (sl : List (Spt × SlC)) (s s' : Spt) : slotOf (mdel sl s) s' = if s = s' then [] else slotOf sl s' := by
  unfold slotOf; rw [mget_mdel]; split <;> rfl
theorem slotOf_mput (sl : List (Spt × SlC)) (s s' : Spt) (e : SlC) : slotOf (mput sl s e) s' = if s = s' then e.xs else slotOf sl s' := by
  unfold slotOf; rw [mget_mput]; split <;> rfl
theorem mem_insAt {xs : List Tm} {i : Nat} {t x : Tm} : x ∈ insAt xs i t ↔ x = t ∨ x ∈ xs := by
  unfold insAt
  rw [List.mem_append, List.mem_append, List.mem_singleton]
  constructor
  · rintro ((h | h) | h)
    · exact .inr (List.mem_of_mem_take h)
    · exact .inl h
    · exact .inr (List.mem_of_mem_drop h)
  · rintro (h | h)
    · exact .inl (.inr h)
    · rw [← List.take_append_drop i xs, List.mem_append] at h
      exact h.elim (fun h => .inl (.inl h)) .inr
theorem tlt_nodup {xs : List Tm} (h : xs.Pairwise tlt) : xs.Nodup := h.imp (fun {a b} hab e => by subst e; exact tlt_irrefl _ hab)

theorem len_le_of_inj {α β : Type} [DecidableEq β] (f : α → β) : ∀ {l : List α} {m : List β}, l.Nodup → (∀ x ∈ l, ∀ y ∈ l, f x = f y → x = y) → (∀ x ∈ l, f x ∈ m) → l.length ≤ m.length
  | [], _, _, _, _ => Nat.zero_le _
  | a :: l, m, hn, hi, hm => by
    have h1 : (m.erase (f a)).length = m.length - 1 := List.length_erase_of_mem (hm a (List.mem_cons_self ..))
    have h2 : 0 < m.length := List.length_pos_of_mem (hm a (List.mem_cons_self ..))
    have h3 := len_le_of_inj f (l := l) (m := m.erase (f a)) (List.nodup_cons.1 hn).2 (fun x hx y hy => hi x (List.mem_cons_of_mem _ hx) y (List.mem_cons_of_mem _ hy)) (fun x hx => by
      have hne : f x ≠ f a := fun e => (List.nodup_cons.1 hn).1 (by rw [← hi x (List.mem_cons_of_mem _ hx) a (List.mem_cons_self ..) e]; exact hx)
      exact (List.mem_erase_of_ne hne).2 (hm x (List.mem_cons_of_mem _ hx)))
    rw [List.length_cons]; omega

theorem Inv.len {W : Wh} {M : List Tm} (h : Inv W M) (s : Spt) : (slotOf W.sl s).length ≤ 1000 := by
  refine Nat.le_trans (len_le_of_inj (m := W.due) (fun t : Tm => (t.2, t.1)) (tlt_nodup (h.srt s)) (fun x _ y _ e => ?_) (fun x hx => ?_)) h.few
  · have e1 := (Prod.mk.inj e).1; have e2 := (Prod.mk.inj e).2
    exact Prod.ext e2 e1
  · exact mem_of_mget ((h.mem s x).1 hx).1
theorem Inv.bnd {W : Wh} {M : List Tm} (h : Inv W M) {t : Tm} (ht : mget W.due t.2 = some t.1) : 0 ≤ t.1 ∧ t.1 < 18446744073709551616 := h.pos _ (mem_of_mget ht)
theorem Inv.sbnd {W : Wh} {M : List Tm} (h : Inv W M) {s : Spt} {t : Tm} (ht : t ∈ slotOf W.sl s) : 0 ≤ t.1 ∧ t.1 < 18446744073709551616 := h.bnd ((h.mem s t).1 ht).1

theorem inv_put {W W' : Wh} {t : Tm} {M : List Tm} (h : Inv W (t :: M)) (ht : t ∉ M) (hp : PutTo W t (whereS W.now t.1.toNat) W') : Inv W' M := by
  obtain ⟨e, i, he, hx, hsp⟩ := hp.sl
  have hget : (W.get (whereS W.now t.1.toNat)).xs = slotOf W.sl (whereS W.now t.1.toNat) := rfl
  rw [hget] at hx hsp
  have hslot : ∀ s, slotOf W'.sl s = if whereS W.now t.1.toNat = s then insAt (slotOf W.sl (whereS W.now t.1.toNat)) i t else slotOf W.sl s := fun s => by
    rw [he, slotOf_mput, hx]
  refine ⟨by rw [hp.due]; exact h.pos, by rw [hp.due]; exact h.few, by rw [hp.due]; exact h.nd, fun s => ?_, fun s x => ?_, fun x hx => by rw [hp.due]; exact h.fly x (List.mem_cons_of_mem _ hx), fun id d hd hn => ?_⟩
  · rw [hslot]
    split
    · exact insAt_sorted (h.srt _) hsp (fun hm => ((h.mem _ t).1 hm).2.1 (List.mem_cons_self ..))
    · exact h.srt s
  · rw [hslot, hp.due, hp.now]
    split
    · rename_i hs
      subst hs
      rw [mem_insAt, h.mem, List.mem_cons, not_or]
      constructor
      · rintro (rfl | ⟨h1, ⟨_, h2⟩, h3⟩)
        · exact ⟨h.fly x (List.mem_cons_self ..), ht, rfl⟩
        · exact ⟨h1, h2, h3⟩
      · rintro ⟨h1, h2, h3⟩
        by_cases hxt : x = t
        · exact .inl hxt
        · exact .inr ⟨h1, ⟨hxt, h2⟩, h3⟩
    · rename_i hs
      rw [h.mem, List.mem_cons, not_or]
      constructor
      · rintro ⟨h1, ⟨_, h2⟩, h3⟩; exact ⟨h1, h2, h3⟩
      · rintro ⟨h1, h2, h3⟩
        exact ⟨h1, ⟨fun e => hs (by rw [← e]; exact h3), h2⟩, h3⟩
  · rw [hp.due] at hd
    rw [hp.at', hp.now, mget_mput]
    split
    · rename_i hs
      have h1 := h.fly t (List.mem_cons_self ..)
      rw [hs, hd] at h1
      rw [Option.some.inj h1]
    · rename_i hs
      exact h.at' id d hd (by rw [List.mem_cons, not_or]; exact ⟨fun e => hs (by rw [← e]), hn⟩)

theorem inv_forget {W : Wh} {t : Tm} {M : List Tm} (h : Inv W (t :: M)) (ht : t ∉ M) : Inv { W with at' := mdel W.at' t.2, due := mdel W.due t.2 } M := by
  have hf := h.fly t (List.mem_cons_self ..)
  have hsame : ∀ x : Tm, mget W.due x.2 = some x.1 → x.2 = t.2 → x = t := fun x h1 h2 => by
    rw [h2, hf] at h1
    exact Prod.ext (Option.some.inj h1).symm h2
  refine ⟨fun e he => h.pos e (mem_mdel he), ?_, mdel_nodup h.nd _, h.srt, fun s x => ?_, fun x hx => ?_, fun id d hd hn => ?_⟩
  · have h1 : (mdel W.due t.2).length ≤ W.due.length := List.length_filter_le _ _
    have h2 := h.few
    show (mdel W.due t.2).length ≤ 1000
    omega
  · show x ∈ slotOf W.sl s ↔ mget (mdel W.due t.2) x.2 = some x.1 ∧ x ∉ M ∧ whereS W.now x.1.toNat = s
    rw [h.mem, mget_mdel, List.mem_cons, not_or]
    split
    · rename_i hs
      constructor
      · rintro ⟨h1, ⟨h2, _⟩, _⟩; exact absurd (hsame x h1 hs.symm) h2
      · rintro ⟨h1, _⟩; cases h1
    · rename_i hs
      constructor
      · rintro ⟨h1, ⟨_, h2⟩, h3⟩; exact ⟨h1, h2, h3⟩
      · rintro ⟨h1, h2, h3⟩; exact ⟨h1, ⟨fun e => hs (by rw [e]), h2⟩, h3⟩
  · show mget (mdel W.due t.2) x.2 = some x.1
    rw [mget_mdel, if_neg (fun e => ht (by rw [← hsame x (h.fly x (List.mem_cons_of_mem _ hx)) e.symm]; exact hx))]
    exact h.fly x (List.mem_cons_of_mem _ hx)
  · change mget (mdel W.due t.2) id = some d at hd
    show mget (mdel W.at' t.2) id = some (whereS W.now d.toNat)
    rw [mget_mdel] at hd ⊢
    split at hd
    · cases hd
    · rename_i hs
      rw [if_neg hs]
      exact h.at' id d hd (by rw [List.mem_cons, not_or]; exact ⟨fun e => hs (by rw [← e]), hn⟩)


/-- What has been taken, on the way of an Advance, and what is left. -/
structure Part (W : Wh) (sl : List (Spt × SlC)) (mv : List Tm) : Prop where
  sub : ∀ s t, t ∈ slotOf sl s → t ∈ slotOf W.sl s
  cov : ∀ s t, t ∈ slotOf W.sl s → t ∈ mv ∨ t ∈ slotOf sl s
  apart : ∀ s t, t ∈ slotOf sl s → t ∉ mv
  org : ∀ t ∈ mv, ∃ s, t ∈ slotOf W.sl s
  nd : mv.Nodup
  srt : ∀ s, (slotOf sl s).Pairwise tlt

theorem part_start {W : Wh} (h : Inv W []) : Part W W.sl [] := ⟨fun _ _ h => h, fun _ _ h => .inr h, fun _ _ _ => List.not_mem_nil, fun _ h => absurd h List.not_mem_nil, List.nodup_nil, h.srt⟩
theorem Inv.slot_eq {W : Wh} {M : List Tm} (h : Inv W M) {s s' : Spt} {t : Tm} (h1 : t ∈ slotOf W.sl s) (h2 : t ∈ slotOf W.sl s') : s = s' := by
  rw [← ((h.mem s t).1 h1).2.2]; exact ((h.mem s' t).1 h2).2.2
theorem part_take {W : Wh} {sl : List (Spt × SlC)} {mv : List Tm} (hI : Inv W []) (h : Part W sl mv) (s : Spt) : Part W (mdel sl s) (mv ++ slotOf sl s) := by
  have hsub : ∀ s' t, t ∈ slotOf (mdel sl s) s' → s ≠ s' ∧ t ∈ slotOf sl s' := fun s' t ht => by
    rw [slotOf_mdel] at ht
    split at ht
    · cases ht
    · rename_i hs; exact ⟨hs, ht⟩
  refine ⟨fun s' t ht => h.sub s' t (hsub s' t ht).2, fun s' t ht => ?_, fun s' t ht => ?_, fun t ht => ?_, ?_, fun s' => ?_⟩
  · rw [List.mem_append, slotOf_mdel]
    rcases h.cov s' t ht with h1 | h1
    · exact .inl (.inl h1)
    · by_cases hs : s = s'
      · subst hs; exact .inl (.inr h1)
      · rw [if_neg hs]; exact .inr h1
  · obtain ⟨hne, h1⟩ := hsub s' t ht
    rw [List.mem_append, not_or]
    exact ⟨h.apart s' t h1, fun h2 => hne (hI.slot_eq (h.sub s t h2) (h.sub s' t h1))⟩
  · rw [List.mem_append] at ht
    exact ht.elim (h.org t) (fun h1 => ⟨s, h.sub s t h1⟩)
  · exact List.nodup_append.2 ⟨h.nd, tlt_nodup (h.srt s), fun a ha b hb e => h.apart s b hb (e ▸ ha)⟩
  · rw [slotOf_mdel]
    split
    · exact List.Pairwise.nil
    · exact h.srt s'
theorem part_pass {W : Wh} {sl : List (Spt × SlC)} {mv : List Tm} (hI : Inv W []) (h : Part W sl mv) (lv : Int) (f0 : Nat) : ∀ k, Part W (passL sl lv f0 k) (mv ++ passO sl lv f0 k)
  | 0 => by rw [show passO sl lv f0 0 = [] from rfl, List.append_nil]; exact h
  | k + 1 => by
    have := part_take hI (part_pass hI h lv f0 k) (passAt lv f0 k)
    rw [List.append_assoc] at this
    exact this
theorem pass_sub {sl : List (Spt × SlC)} {lv : Int} {f0 : Nat} : ∀ (k : Nat) {s : Spt} {t : Tm}, t ∈ slotOf (passL sl lv f0 k) s → t ∈ slotOf sl s ∧ ∀ i, i < k → passAt lv f0 i ≠ s
  | 0, _, _, h => ⟨h, fun i hi => absurd hi (Nat.not_lt_zero _)⟩
  | k + 1, s, t, h => by
    rw [show passL sl lv f0 (k + 1) = mdel (passL sl lv f0 k) (passAt lv f0 k) from rfl, slotOf_mdel] at h
    split at h
    · cases h
    · rename_i hs
      obtain ⟨h1, h2⟩ := pass_sub k h
      refine ⟨h1, fun i hi => ?_⟩
      by_cases hik : i = k
      · subst hik; exact hs
      · exact h2 i (by omega)

theorem where_inv {now due d : Nat} {lv : Int} (hw : whereS now due = (lv, (d : Int))) (h0 : 0 ≤ lv) (h3 : lv ≤ 3) : now < due ∧
    ((lv = 0 ∧ due / 64 = now / 64 ∧ d = due % 64) ∨ (lv = 1 ∧ due / 64 ≠ now / 64 ∧ due / 4096 = now / 4096 ∧ d = due / 64 % 64) ∨
     (lv = 2 ∧ due / 4096 ≠ now / 4096 ∧ due / 262144 = now / 262144 ∧ d = due / 4096 % 64) ∨ (lv = 3 ∧ due / 262144 ≠ now / 262144 ∧ due / 16777216 = now / 16777216 ∧ d = due / 262144 % 64)) := by
  unfold whereS lvl at hw
  by_cases h1 : due ≤ now
  · rw [if_pos h1] at hw; have := (Prod.mk.inj hw).1; omega
  rw [if_neg h1] at hw
  refine ⟨by omega, ?_⟩
  by_cases a0 : due / 64 = now / 64
  · simp only [if_pos a0] at hw
    have := Prod.mk.inj hw
    exact .inl ⟨by omega, a0, by omega⟩
  by_cases a1 : due / 4096 = now / 4096
  · simp only [if_neg a0, if_pos a1] at hw
    have := Prod.mk.inj hw
    exact .inr (.inl ⟨by omega, a0, a1, by omega⟩)
  by_cases a2 : due / 262144 = now / 262144
  · simp only [if_neg a0, if_neg a1, if_pos a2] at hw
    have := Prod.mk.inj hw
    exact .inr (.inr (.inl ⟨by omega, a1, a2, by omega⟩))
  by_cases a3 : due / 16777216 = now / 16777216
  · simp only [if_neg a0, if_neg a1, if_neg a2, if_pos a3] at hw
    have := Prod.mk.inj hw
    exact .inr (.inr (.inr ⟨by omega, a2, a3, by omega⟩))
  · simp only [if_neg a0, if_neg a1, if_neg a2, if_neg a3] at hw
    have := Prod.mk.inj hw
    omega

theorem where_of0 {now due : Nat} (h : now < due) (a0 : due / 64 = now / 64) : whereS now due = (0, ((due % 64 : Nat) : Int)) := by
  unfold whereS lvl; rw [if_neg (by omega)]; simp only [if_pos a0]; rfl
theorem where_of1 {now due : Nat} (h : now < due) (a0 : due / 64 ≠ now / 64) (a1 : due / 4096 = now / 4096) : whereS now due = (1, ((due / 64 % 64 : Nat) : Int)) := by
  unfold whereS lvl; rw [if_neg (by omega)]; simp only [if_neg a0, if_pos a1]; rfl
theorem where_of2 {now due : Nat} (h : now < due) (a1 : due / 4096 ≠ now / 4096) (a2 : due / 262144 = now / 262144) : whereS now due = (2, ((due / 4096 % 64 : Nat) : Int)) := by
  have a0 : due / 64 ≠ now / 64 := by omega
  unfold whereS lvl; rw [if_neg (by omega)]; simp only [if_neg a0, if_neg a1, if_pos a2]; rfl
theorem where_of3 {now due : Nat} (h : now < due) (a2 : due / 262144 ≠ now / 262144) (a3 : due / 16777216 = now / 16777216) : whereS now due = (3, ((due / 262144 % 64 : Nat) : Int)) := by
  have a0 : due / 64 ≠ now / 64 := by omega
  have a1 : due / 4096 ≠ now / 4096 := by omega
  unfold whereS lvl; rw [if_neg (by omega)]; simp only [if_neg a0, if_neg a1, if_neg a2, if_pos a3]; rfl
theorem where_of4 {now due : Nat} (h : now < due) (a3 : due / 16777216 ≠ now / 16777216) : whereS now due = (4, 0) := by
  have a0 : due / 64 ≠ now / 64 := by omega
  have a1 : due / 4096 ≠ now / 4096 := by omega
  have a2 : due / 262144 ≠ now / 262144 := by omega
  unfold whereS lvl; rw [if_neg (by omega)]; simp only [if_neg a0, if_neg a1, if_neg a2, if_neg a3]; rfl

/-- What a pass leaves stands where the new tick says. -/
theorem where_left0 (now to due d k : Nat) (hnt : now ≤ to) (hto : to < 18446744073709551616) (hdue : due < 18446744073709551616)
    (hw : whereS now due = (0, (d : Int))) (hk : k ≤ 64) (hst : k = 64 ∨ to / 1 < (now / 1 + 1 + k) % 18446744073709551616) (hv : ∀ i, i < k → passAt 0 (now / 1 + 1) i ≠ (0, (d : Int))) : whereS to due = (0, (d : Int)) := by
  have hv' : ∀ i, i < k → (now / 1 + 1 + i) % 64 ≠ d := fun i hi e => hv i hi (by unfold passAt; rw [e])
  obtain ⟨hlt, hc⟩ := where_inv hw (by omega) (by omega)
  have hc' : due / 64 = now / 64 ∧ d = due % 64 := by
    rcases hc with ⟨e, h⟩ | ⟨e, h⟩ | ⟨e, h⟩ | ⟨e, h⟩
    all_goals first | exact h | (exfalso; omega)
  obtain ⟨a1, rfl⟩ := hc'
  have hi := hv' (due / 1 - now / 1 - 1)
  have hto' : to / 1 < due / 1 := by
    by_cases hik : due / 1 - now / 1 - 1 < k
    · have := hi hik; omega
    · omega
  exact where_of0 (by omega) (by omega)
theorem where_left1 (now to due d k : Nat) (hnt : now ≤ to) (hto : to < 18446744073709551616) (hdue : due < 18446744073709551616)
    (hw : whereS now due = (1, (d : Int))) (hk : k ≤ 64) (hst : k = 64 ∨ to / 64 < (now / 64 + 1 + k) % 18446744073709551616) (hv : ∀ i, i < k → passAt 1 (now / 64 + 1) i ≠ (1, (d : Int))) : whereS to due = (1, (d : Int)) := by
  have hv' : ∀ i, i < k → (now / 64 + 1 + i) % 64 ≠ d := fun i hi e => hv i hi (by unfold passAt; rw [e])
  obtain ⟨hlt, hc⟩ := where_inv hw (by omega) (by omega)
  have hc' : due / 64 ≠ now / 64 ∧ due / 4096 = now / 4096 ∧ d = due / 64 % 64 := by
    rcases hc with ⟨e, h⟩ | ⟨e, h⟩ | ⟨e, h⟩ | ⟨e, h⟩
    all_goals first | exact h | (exfalso; omega)
  obtain ⟨a0, a1, rfl⟩ := hc'
  have hi := hv' (due / 64 - now / 64 - 1)
  have hto' : to / 64 < due / 64 := by
    by_cases hik : due / 64 - now / 64 - 1 < k
    · have := hi hik; omega
    · omega
  exact where_of1 (by omega) (by omega) (by omega)
theorem where_left2 (now to due d k : Nat) (hnt : now ≤ to) (hto : to < 18446744073709551616) (hdue : due < 18446744073709551616)
    (hw : whereS now due = (2, (d : Int))) (hk : k ≤ 64) (hst : k = 64 ∨ to / 4096 < (now / 4096 + 1 + k) % 18446744073709551616) (hv : ∀ i, i < k → passAt 2 (now / 4096 + 1) i ≠ (2, (d : Int))) : whereS to due = (2, (d : Int)) := by
  have hv' : ∀ i, i < k → (now / 4096 + 1 + i) % 64 ≠ d := fun i hi e => hv i hi (by unfold passAt; rw [e])
  obtain ⟨hlt, hc⟩ := where_inv hw (by omega) (by omega)
  have hc' : due / 4096 ≠ now / 4096 ∧ due / 262144 = now / 262144 ∧ d = due / 4096 % 64 := by
    rcases hc with ⟨e, h⟩ | ⟨e, h⟩ | ⟨e, h⟩ | ⟨e, h⟩
    all_goals first | exact h | (exfalso; omega)
  obtain ⟨a0, a1, rfl⟩ := hc'
  have hi := hv' (due / 4096 - now / 4096 - 1)
  have hto' : to / 4096 < due / 4096 := by
    by_cases hik : due / 4096 - now / 4096 - 1 < k
    · have := hi hik; omega
    · omega
  exact where_of2 (by omega) (by omega) (by omega)
theorem where_left3 (now to due d k : Nat) (hnt : now ≤ to) (hto : to < 18446744073709551616) (hdue : due < 18446744073709551616)
    (hw : whereS now due = (3, (d : Int))) (hk : k ≤ 64) (hst : k = 64 ∨ to / 262144 < (now / 262144 + 1 + k) % 18446744073709551616) (hv : ∀ i, i < k → passAt 3 (now / 262144 + 1) i ≠ (3, (d : Int))) : whereS to due = (3, (d : Int)) := by
  have hv' : ∀ i, i < k → (now / 262144 + 1 + i) % 64 ≠ d := fun i hi e => hv i hi (by unfold passAt; rw [e])
  obtain ⟨hlt, hc⟩ := where_inv hw (by omega) (by omega)
  have hc' : due / 262144 ≠ now / 262144 ∧ due / 16777216 = now / 16777216 ∧ d = due / 262144 % 64 := by
    rcases hc with ⟨e, h⟩ | ⟨e, h⟩ | ⟨e, h⟩ | ⟨e, h⟩
    all_goals first | exact h | (exfalso; omega)
  obtain ⟨a0, a1, rfl⟩ := hc'
  have hi := hv' (due / 262144 - now / 262144 - 1)
  have hto' : to / 262144 < due / 262144 := by
    by_cases hik : due / 262144 - now / 262144 - 1 < k
    · have := hi hik; omega
    · omega
  exact where_of3 (by omega) (by omega) (by omega)

end Go.Proofs.Ytnobodgjabgikaa
