/- The wheel: its functions, told by the list of what is due. -/
import Derived.Test.YtnobodgjabgikaaProg
import Derived.Test.YtnobodgjabgikaaWhM
namespace Go.Proofs.Ytnobodgjabgikaa
open Go.RowKit Go.Sort
set_option linter.unusedSimpArgs false
set_option linter.unusedVariables false

/-- A wheel between two calls. -/
structure Good (w : World) (W : Wh) : Prop where
  at' : WhAt w W
  inv : Inv W []

theorem Good.keep {F : Nat → Prop} {w w' : World} {W : Wh} (h : Good w W) (x : Ext F w w') (hn : ∀ q, W.own q → ¬ F q) : Good w' W := ⟨h.at'.keep x hn, h.inv⟩
theorem Good.lt {w : World} {W : Wh} (h : Good w W) (q : Nat) (hq : W.own q) : q < w.heap.size := h.at'.lt q hq

/-- Behind a call that may write to the wheel: W' is in the place of W. -/
structure Aft (W W' : Wh) (w w' : World) : Prop where
  good : Good w' W'
  b : W'.b = W.b
  ext : Ext W.own w w'
  own : ∀ q, W'.own q → W.own q ∨ w.heap.size ≤ q

def NewG (now : Nat) (w : World) (e : Ending) (w' : World) : Prop :=
  ∃ W : Wh, e = .returned (.pointer (some ⟨W.b, 0, none⟩)) ∧ Good w' W ∧ W.now = now ∧ W.due = [] ∧ Ext NoB w w' ∧ ∀ q, W.own q → w.heap.size ≤ q
theorem newG (now : Nat) (w : World) (hn : now < 18446744073709551616) : Calls Try.prog 9 #[.int .u64 now] w (NewG now w) :=
  (new_calls now w hn).mono fun e w' ⟨W, he, h1, h2, h3, h4, h5, h6, h7⟩ => ⟨W, he, ⟨h1, by rw [h4]; simp, by rw [h4]; simp, by rw [h4]; simp, fun s => by unfold slotOf; rw [h5]; exact List.Pairwise.nil,
    fun s t => ⟨fun h => (by unfold slotOf at h; rw [h5] at h; exact absurd h List.not_mem_nil), fun h => (by rw [h4] at h; exact absurd h.1 (by simp [mget_nil]))⟩, fun t h => absurd h List.not_mem_nil, fun id d h => (by rw [h4] at h; exact absurd h (by simp [mget_nil]))⟩, h2, h4, h6, h7⟩

/-- What Add answers. -/
def addE (D : List (Int × Int)) (id : Int) : Int := if id < 1 then 1 else if (mget D id).isSome then 9 else if 1000 ≤ D.length then 65 else 0
def addD (D : List (Int × Int)) (id : Int) (due : Nat) : List (Int × Int) := if addE D id = 0 then D ++ [(id, (due : Int))] else D
theorem mput_new {K V : Type} [DecidableEq K] {m : List (K × V)} {x : K} {v : V} (h : mget m x = none) : mput m x v = m ++ [(x, v)] := by
  unfold mput
  rw [← mget_isSome, h]; rfl
theorem inv_new {W : Wh} {id : Int} {due : Nat} (h : Inv W []) (hm : mget W.due id = none) (hl : W.due.length < 1000) (hd : due < 18446744073709551616) : Inv { W with due := mput W.due id due } [((due : Int), id)] := by
  have e := mput_new (v := (due : Int)) hm
  have hg : ∀ x, mget (mput W.due id (due : Int)) x = if id = x then some (due : Int) else mget W.due x := mget_mput _ _ _
  refine ⟨fun y hy => ?_, ?_, mput_nodup h.nd _ _, h.srt, fun s t => ?_, fun t ht => ?_, fun id' d hd' hn => ?_⟩
  · change y ∈ mput W.due id (due : Int) at hy
    rw [e, List.mem_append, List.mem_singleton] at hy
    rcases hy with hy | rfl
    · exact h.pos y hy
    · exact ⟨by show (0 : Int) ≤ (due : Int); omega, by show (due : Int) < _; omega⟩
  · show (mput W.due id (due : Int)).length ≤ 1000
    rw [e, List.length_append, List.length_singleton]; omega
  · show t ∈ slotOf W.sl s ↔ mget (mput W.due id (due : Int)) t.2 = some t.1 ∧ t ∉ [((due : Int), id)] ∧ whereS W.now t.1.toNat = s
    rw [hg, h.mem, List.mem_singleton]
    by_cases ht : id = t.2
    · rw [if_pos ht, ← ht, hm]
      constructor
      · rintro ⟨h1, _⟩; cases h1
      · rintro ⟨h1, h2, _⟩
        exact absurd (Prod.ext (Option.some.inj h1).symm ht.symm) h2
    · rw [if_neg ht]
      constructor
      · rintro ⟨h1, _, h3⟩; exact ⟨h1, fun e => ht (by rw [e]), h3⟩
      · rintro ⟨h1, _, h3⟩; exact ⟨h1, List.not_mem_nil, h3⟩
  · rw [List.mem_singleton] at ht
    subst ht
    show mget (mput W.due id (due : Int)) id = some (due : Int)
    rw [hg, if_pos rfl]
  · change mget (mput W.due id (due : Int)) id' = some d at hd'
    rw [hg] at hd'
    split at hd'
    · rename_i hs
      exact absurd (by rw [List.mem_singleton, ← hs, ← Option.some.inj hd']) hn
    · exact h.at' id' d hd' List.not_mem_nil

def AddG (W : Wh) (id : Int) (due : Nat) (w : World) (e : Ending) (w' : World) : Prop :=
  ∃ W', e = .returned (.int .i64 (addE W.due id)) ∧ Aft W W' w w' ∧ W'.now = W.now ∧ W'.due = addD W.due id due
theorem addG (W : Wh) {b : Nat} (hb : W.b = b) (id : Int) (due : Nat) (w : World) (h : Good w W) (hd : due < 18446744073709551616) : Calls Try.prog 10 #[.pointer (some ⟨b, 0, none⟩), .int .i64 id, .int .u64 due] w (AddG W id due w) := by
  subst hb
  refine (add_calls W id due w h.at' hd (h.inv.srt _) (Nat.le_trans (h.inv.len _) (by omega))).mono ?_
  rintro e w' ⟨W', er, rfl, ha, hW, hx, ho⟩
  have same : ∀ {x : Int}, addE W.due id = x → x ≠ 0 → er = x → W' = W → AddG W id due w (.returned (.int .i64 er)) w' := fun {x} h1 h2 h3 h4 => by
    subst h4
    exact ⟨W', by rw [h1, h3], ⟨⟨hW, h.inv⟩, rfl, hx, ho⟩, rfl, by unfold addD; rw [h1, if_neg h2]⟩
  rcases ha with ⟨h1, h2, h3⟩ | ⟨h1, h2, h3, h4⟩ | ⟨h1, h2, h3, h4, h5⟩ | ⟨h1, h2, h3, h4, h5⟩
  · exact same (by unfold addE; rw [if_pos h1]) (by decide) h2 h3
  · exact same (by unfold addE; rw [if_neg (by omega), if_pos h2]) (by decide) h3 h4
  · exact same (by unfold addE; rw [if_neg (by omega), h2, if_neg (by simp), if_pos h3]) (by decide) h4 h5
  · have he : addE W.due id = 0 := by unfold addE; rw [if_neg (by omega), h2, if_neg (by simp), if_neg (by omega)]
    have hi := inv_put (W := { W with due := mput W.due id due }) (t := ((due : Int), id)) (M := []) (inv_new h.inv h2 h3 hd) List.not_mem_nil h5
    exact ⟨W', by rw [he, h4], ⟨⟨hW, hi⟩, h5.b, hx, ho⟩, h5.now, by rw [h5.due]; unfold addD; rw [he, if_pos rfl]; exact mput_new h2⟩

theorem mem_eraseIdx_nd {l : List Tm} (hnd : l.Nodup) {i : Nat} (hi : i < l.length) (x : Tm) : x ∈ l.eraseIdx i ↔ x ∈ l ∧ x ≠ l[i] := by
  rw [List.mem_eraseIdx_iff_getElem]
  constructor
  · rintro ⟨j, hj, hne, rfl⟩
    exact ⟨List.getElem_mem hj, fun e => hne (nodup_getElem?_inj hnd (List.getElem?_eq_getElem hj) (by rw [e]; exact List.getElem?_eq_getElem hi))⟩
  · rintro ⟨hm, hne⟩
    obtain ⟨j, hj, rfl⟩ := List.mem_iff_getElem.1 hm
    exact ⟨j, hj, fun e => hne (by subst e; rfl), rfl⟩
theorem inv_cancel {W W' : Wh} {t : Tm} (h : Inv W []) (hm : mget W.due t.2 = some t.1) (hc : CanTo W t (whereS W.now t.1.toNat) W') (hn : W'.now = W.now) : Inv W' [] := by
  obtain ⟨e, he, i, hi, hti, hxs⟩ := hc.sl
  have hslot : ∀ s, slotOf W'.sl s = if whereS W.now t.1.toNat = s then (slotOf W.sl (whereS W.now t.1.toNat)).eraseIdx i else slotOf W.sl s := fun s => by
    rw [he, slotOf_mput, hxs]; rfl
  have hnd := tlt_nodup (h.srt (whereS W.now t.1.toNat))
  have hmem : ∀ x, x ∈ (slotOf W.sl (whereS W.now t.1.toNat)).eraseIdx i ↔ x ∈ slotOf W.sl (whereS W.now t.1.toNat) ∧ x ≠ t := fun x => by
    have hi' : i < (slotOf W.sl (whereS W.now t.1.toNat)).length := hi
    have hti' : (slotOf W.sl (whereS W.now t.1.toNat))[i] = t := hti
    rw [mem_eraseIdx_nd hnd hi', hti']
  refine ⟨fun y hy => ?_, ?_, ?_, fun s => ?_, fun s x => ?_, fun x hx => absurd hx List.not_mem_nil, fun id d hd _ => ?_⟩
  · rw [hc.due] at hy; exact h.pos y (mem_mdel hy)
  · rw [hc.due]; exact Nat.le_trans (List.length_filter_le _ _) h.few
  · rw [hc.due]; exact mdel_nodup h.nd _
  · rw [hslot]
    split
    · exact (h.srt _).sublist (List.eraseIdx_sublist ..)
    · exact h.srt s
  · rw [hslot, hc.due, hn, mget_mdel]
    have hsame : mget W.due x.2 = some x.1 → (t.2 = x.2 ↔ x = t) := fun h1 => ⟨fun h2 => by
      rw [← h2, hm] at h1
      exact Prod.ext (Option.some.inj h1).symm h2.symm, fun h2 => by rw [h2]⟩
    by_cases hs : whereS W.now t.1.toNat = s
    · rw [if_pos hs, hmem, hs, h.mem]
      by_cases h2 : t.2 = x.2
      · rw [if_pos h2]
        constructor
        · rintro ⟨⟨h1, _⟩, h3⟩; exact absurd ((hsame h1).1 h2) h3
        · rintro ⟨h1, _⟩; cases h1
      · rw [if_neg h2]
        exact ⟨fun h => h.1, fun h => ⟨h, fun e => h2 (by rw [e])⟩⟩
    · rw [if_neg hs, h.mem]
      by_cases h2 : t.2 = x.2
      · rw [if_pos h2]
        constructor
        · rintro ⟨h1, _, h3⟩
          have := (hsame h1).1 h2
          subst this
          exact absurd h3 hs
        · rintro ⟨h1, _⟩; cases h1
      · rw [if_neg h2]
  · rw [hc.due, mget_mdel] at hd
    rw [hc.at', hn, mget_mdel]
    split at hd
    · cases hd
    · rename_i hs
      rw [if_neg hs]
      exact h.at' id d hd List.not_mem_nil

def CanG (W : Wh) (id : Int) (w : World) (e : Ending) (w' : World) : Prop :=
  ∃ W', e = .returned (.bool (mget W.due id).isSome) ∧ Aft W W' w w' ∧ W'.now = W.now ∧ W'.due = mdel W.due id
theorem mdel_none {K V : Type} [DecidableEq K] {m : List (K × V)} {x : K} (h : mget m x = none) : mdel m x = m := by
  unfold mdel
  refine List.filter_eq_self.2 (fun p hp => ?_)
  simpa using mget_none.1 h p hp
theorem cancelG (W : Wh) {b : Nat} (hb : W.b = b) (id : Int) (w : World) (h : Good w W) : Calls Try.prog 16 #[.pointer (some ⟨b, 0, none⟩), .int .i64 id] w (CanG W id w) := by
  subst hb
  cases hm : mget W.due id with
  | none =>
    refine (cancel_none W id w h.at' hm).mono ?_
    rintro e w' ⟨rfl, rfl⟩
    exact ⟨W, by rw [hm]; rfl, ⟨h, rfl, Ext.refl _ _, fun q hq => .inl hq⟩, rfl, (mdel_none hm).symm⟩
  | some d =>
    have hat := h.inv.at' id d hm List.not_mem_nil
    obtain ⟨s1, s2, hs⟩ : ∃ s1 s2, whereS W.now d.toNat = (s1, s2) := ⟨_, _, rfl⟩
    rw [hs] at hat
    have hin : (d, id) ∈ (W.get (s1, s2)).xs := (h.inv.mem (s1, s2) (d, id)).2 ⟨hm, List.not_mem_nil, hs⟩
    refine (cancel_calls W id d s1 s2 w h.at' hm hat (h.inv.srt _) (Nat.le_trans (h.inv.len _) (by omega)) hin).mono ?_
    rintro e w' ⟨W', rfl, hc, hW, hx, ho⟩
    exact ⟨W', by rw [hm]; rfl, ⟨⟨hW, inv_cancel (t := (d, id)) h.inv hm (by rw [hs]; exact hc) hc.now⟩, hc.b, hx, ho⟩, hc.now, hc.due⟩

def AdvG (W : Wh) (T : Nat) (w : World) (e : Ending) (w' : World) : Prop :=
  ∃ (v : Value) (g : Option Nat) (xs : List Tm) (W' : Wh), e = .returned v ∧ SlO w' 33 2 timerE g v xs ∧ Told W T xs ∧ xs.length ≤ 1000 ∧ Aft W W' w w' ∧ W'.now = T ∧ W'.due = W.due.filter (fun e => decide ((T : Int) < e.2)) ∧ (∀ q, g = some q → w.heap.size ≤ q ∧ ¬ W'.own q)
theorem Told.len {W : Wh} {T : Nat} {xs : List Tm} (h : Told W T xs) : xs.length ≤ W.due.length :=
  len_le_of_inj (m := W.due) (fun t : Tm => (t.2, t.1)) (tlt_nodup h.srt) (fun x _ y _ e => by
    have e1 := (Prod.mk.inj e).1; have e2 := (Prod.mk.inj e).2
    exact Prod.ext e2 e1) (fun x hx => mem_of_mget ((h.mem x).1 hx).1)
theorem advanceG (W : Wh) {b : Nat} (hb : W.b = b) (to : Nat) (w : World) (h : Good w W) (hto : to < 18446744073709551616) : Calls Try.prog 11 #[.pointer (some ⟨b, 0, none⟩), .int .u64 to] w (AdvG W (max to W.now) w) := by
  subst hb
  exact (advance_calls W to w h.at' hto h.inv).mono fun e w' ⟨v, g, xs, W', he, h1, h2, h3, h4, h5, h6, h7⟩ => ⟨v, g, xs, W', he, h1, h2, Nat.le_trans h2.len h.inv.few, ⟨⟨h4, h3.inv⟩, h3.b, h5, h6⟩, h3.now, h3.due, h7⟩

theorem addE_ok {D : List (Int × Int)} {id : Int} (h1 : 1 ≤ id) (h2 : mget D id = none) (h3 : D.length < 1000) : addE D id = 0 := by
  unfold addE; rw [if_neg (by omega), h2, if_neg (by simp), if_neg (by omega)]
def AddOK (W : Wh) (id : Int) (due : Nat) (w : World) (e : Ending) (w' : World) : Prop :=
  ∃ W', e = .returned (.int .i64 0) ∧ Aft W W' w w' ∧ W'.now = W.now ∧ W'.due = W.due ++ [(id, (due : Int))]
theorem addOK (W : Wh) {b : Nat} (hb : W.b = b) (id : Int) (due : Nat) (w : World) (h : Good w W) (hd : due < 18446744073709551616) (h1 : 1 ≤ id) (h2 : mget W.due id = none) (h3 : W.due.length < 1000) :
    Calls Try.prog 10 #[.pointer (some ⟨b, 0, none⟩), .int .i64 id, .int .u64 due] w (AddOK W id due w) :=
  (addG W hb id due w h hd).mono fun e w' ⟨W', he, ha, hn, hd'⟩ => ⟨W', by rw [he, addE_ok h1 h2 h3], ha, hn, by rw [hd']; unfold addD; rw [addE_ok h1 h2 h3, if_pos rfl]⟩

def AdvT (W : Wh) (T : Nat) (w : World) (e : Ending) (w' : World) : Prop := AdvG W T w e w'
theorem advT (W : Wh) {b : Nat} (hb : W.b = b) (to T : Nat) (w : World) (h : Good w W) (hto : to < 18446744073709551616) (hT : max to W.now = T) : Calls Try.prog 11 #[.pointer (some ⟨b, 0, none⟩), .int .u64 to] w (AdvT W T w) := by
  subst hT
  exact advanceG W hb to w h hto
theorem nowG (W : Wh) {b n : Nat} (hb : W.b = b) (hn : W.now = n) (w : World) (h : Good w W) : Calls Try.prog 13 #[.pointer (some ⟨b, 0, none⟩)] w fun e w' => e = .returned (.int .u64 n) ∧ w = w' := by
  subst hb hn
  exact now_calls W w h.at'
theorem lenG (W : Wh) {b n : Nat} (hb : W.b = b) (hn : W.due.length = n) (w : World) (h : Good w W) : Calls Try.prog 12 #[.pointer (some ⟨b, 0, none⟩)] w fun e w' => e = .returned (.int .i64 n) ∧ w = w' := by
  subst hb hn
  exact len_calls W w h.at'
theorem dueG (W : Wh) {b : Nat} (hb : W.b = b) (id : Int) (w : World) (h : Good w W) : Calls Try.prog 15 #[.pointer (some ⟨b, 0, none⟩), .int .i64 id] w (DuePost W id w) := by
  subst hb
  exact due_calls W id w h.at'

/-! ### the plain laws of what is told -/

/-- What is told up to T of what stands in D, in order. -/
structure TolD (D : List (Int × Int)) (T : Nat) (xs : List Tm) : Prop where
  srt : xs.Pairwise tlt
  mem : ∀ t, t ∈ xs ↔ mget D t.2 = some t.1 ∧ t.1 ≤ (T : Int)
theorem Told.d {W : Wh} {T : Nat} {xs : List Tm} (h : Told W T xs) : TolD W.due T xs := ⟨h.srt, h.mem⟩
def lateD (D : List (Int × Int)) (T : Nat) : List (Int × Int) := D.filter (fun e => decide ((T : Int) < e.2))
theorem lateD_nodup {D : List (Int × Int)} (h : (D.map (·.1)).Nodup) (T : Nat) : ((lateD D T).map (·.1)).Nodup := h.sublist (List.filter_sublist.map _)
theorem mget_late {D : List (Int × Int)} (h : (D.map (·.1)).Nodup) (T : Nat) (id d : Int) : mget (lateD D T) id = some d ↔ mget D id = some d ∧ (T : Int) < d := by
  constructor
  · intro h1
    have h2 := List.mem_filter.1 (mem_of_mget h1)
    exact ⟨mget_of_mem h h2.1, by simpa using h2.2⟩
  · rintro ⟨h1, h2⟩
    exact mget_of_mem (lateD_nodup h T) (List.mem_filter.2 ⟨mem_of_mget h1, by simpa using h2⟩)
theorem late_late (D : List (Int × Int)) {N T : Nat} (h : N ≤ T) : lateD (lateD D N) T = lateD D T := by
  unfold lateD
  rw [List.filter_filter]
  refine List.filter_congr (fun e _ => ?_)
  by_cases h1 : (T : Int) < e.2
  · have : (N : Int) < e.2 := by omega
    simp [h1, this]
  · simp [h1]
theorem TolD.join {D : List (Int × Int)} {N T : Nat} {ps xs : List Tm} (hD : (D.map (·.1)).Nodup) (h : TolD D N ps) (k : TolD (lateD D N) T xs) (hNT : N ≤ T) : TolD D T (ps ++ xs) := by
  refine ⟨List.pairwise_append.2 ⟨h.srt, k.srt, fun a ha b hb => ?_⟩, fun t => ?_⟩
  · have h1 := ((h.mem a).1 ha).2
    have h2 := ((mget_late hD N _ _).1 ((k.mem b).1 hb).1).2
    unfold tlt; omega
  · rw [List.mem_append, h.mem, k.mem, mget_late hD]
    constructor
    · rintro (⟨h1, h2⟩ | ⟨⟨h1, h2⟩, h3⟩)
      · exact ⟨h1, by omega⟩
      · exact ⟨h1, h3⟩
    · rintro ⟨h1, h2⟩
      by_cases h3 : t.1 ≤ (N : Int)
      · exact .inl ⟨h1, h3⟩
      · exact .inr ⟨⟨h1, by omega⟩, h2⟩
theorem tlt_eq_of_mem : ∀ {xs ys : List Tm}, xs.Pairwise tlt → ys.Pairwise tlt → (∀ t, t ∈ xs ↔ t ∈ ys) → xs = ys
  | [], [], _, _, _ => rfl
  | [], y :: ys, _, _, h => absurd ((h y).2 (List.mem_cons_self ..)) List.not_mem_nil
  | x :: xs, [], _, _, h => absurd ((h x).1 (List.mem_cons_self ..)) List.not_mem_nil
  | x :: xs, y :: ys, h1, h2, h => by
    obtain ⟨a1, b1⟩ := List.pairwise_cons.1 h1
    obtain ⟨a2, b2⟩ := List.pairwise_cons.1 h2
    have hxy : x = y := by
      rcases List.mem_cons.1 ((h x).1 (List.mem_cons_self ..)) with e | e
      · exact e
      · rcases List.mem_cons.1 ((h y).2 (List.mem_cons_self ..)) with e' | e'
        · exact e'.symm
        · exact absurd (tlt_trans (a2 x e) (a1 y e')) (tlt_irrefl _)
    subst hxy
    rw [tlt_eq_of_mem b1 b2 (fun t => ?_)]
    have := h t
    rw [List.mem_cons, List.mem_cons] at this
    constructor
    · intro ht
      rcases this.1 (.inr ht) with e | e
      · subst e; exact absurd (a1 t ht) (tlt_irrefl _)
      · exact e
    · intro ht
      rcases this.2 (.inr ht) with e | e
      · subst e; exact absurd (a2 t ht) (tlt_irrefl _)
      · exact e
theorem TolD.unique {D : List (Int × Int)} {T : Nat} {xs ys : List Tm} (h : TolD D T xs) (k : TolD D T ys) : xs = ys := tlt_eq_of_mem h.srt k.srt (fun t => by rw [h.mem, k.mem])

theorem TolD.len {D : List (Int × Int)} {T : Nat} {xs : List Tm} (h : TolD D T xs) : xs.length ≤ D.length :=
  len_le_of_inj (m := D) (fun t : Tm => (t.2, t.1)) (tlt_nodup h.srt) (fun x _ y _ e => by
    have e1 := (Prod.mk.inj e).1; have e2 := (Prod.mk.inj e).2
    exact Prod.ext e2 e1) (fun x hx => mem_of_mget ((h.mem x).1 hx).1)

/-! ### a slice of uint64 -/
def natE (n : Nat) : List Value := [.int .u64 (n : Int)]
theorem natE_len (n : Nat) : (natE n).length = 1 := rfl
theorem SlR.natCell {w : World} {A : Option Addr} {c b o : Nat} {xs : List Nat} (h : SlR w 1 natE A c b o xs) (i : Nat) (hi : i < xs.length) : w.cell? ⟨b, o + i, none⟩ = some (.int .u64 xs[i]) := by
  have := h.cell natE_len i xs[i] (List.getElem?_eq_getElem hi) 0 _ rfl
  simpa using this
/-- A mask of low bits. -/
theorem and_low (n k : Nat) (h : n < 18446744073709551616) (hk : 2 ^ k - 1 < 18446744073709551616) : bits .and .u64 (n : Int) ((2 ^ k - 1 : Nat) : Int) = ((n % 2 ^ k : Nat) : Int) := by
  rw [bits_and_u64_nat n (2 ^ k - 1) h hk, Nat.and_two_pow_sub_one_eq_mod]

end Go.Proofs.Ytnobodgjabgikaa
