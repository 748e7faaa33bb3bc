/- A map's literal of several entries, inserted in whatever order. -/
import Derived.Test.YtgiimmiandhkhaaDoorU
import Derived.Test.YtgiimmiandhkhaaDoorKeys
namespace Go.Proofs.YtgiimmiandhkhaaDoor
open Go.RowKit
set_option linter.unusedSimpArgs false
set_option linter.unusedVariables false

theorem mput_fresh {K V : Type} [DecidableEq K] {m : List (K × V)} {x : K} {v : V} (h : mget m x = none) : mput m x v = m ++ [(x, v)] := by
  unfold mput
  rw [← mget_isSome, h]; rfl

section
variable {P : Program} {ops : Array Oper} {Q : Exit → Act → World → Prop} {md : Region.Mode} {S : World → Prop} {st : Nat}

/-- An operation that commutes with all others is taken first; there is no last store. -/
theorem wpAnyV_take0 {i : Nat} {fuel : Nat} {listed : Array Bool} {a : Act} {w : World} (hst : ops[st]? = none) (hi : (ops[i]?).isSome = true)
    (hs : Region.noSelect ops = true) (hf : Region.free md ops listed i = true) (hr : (Region.ready md ops listed).contains i = true) (hS : S w)
    (h : ∀ o, o = (ops[i]?).get hi → ∃ v, (∀ c a w, Q (.panic c) (a.put o.dst v) w → Q (.panic c) a w) ∧ YieldsIf P ops S o v a ∧ wpAnyV P md ops Q S st fuel (listed.setIfInBounds i true) (a.put o.dst v) w) : wpAnyV P md ops Q S st (fuel + 1) listed a w := by
  obtain ⟨v, hQ, hy, hw⟩ := h _ rfl
  exact wpAnyV_first (get_of hi) (Region.noSelect_spec hs) hQ (fun l hl => by obtain ⟨_, o, ho, _⟩ := mem_ready.1 hl; rw [hst] at ho; cases ho) fuel listed a w (Region.free_spec (get_of hi) hf) (by simpa using hr) hy hS hw

theorem getD_set_self {l : Array Bool} {i : Nat} (h : l.getD i true = false) : (l.setIfInBounds i true).getD i true = true := by
  simp [Array.getD_eq_getD_getElem?, Array.getElem?_setIfInBounds]
  split <;> rfl
theorem getD_lt {l : Array Bool} {i : Nat} (h : l.getD i true = false) : i < l.size := by
  refine Classical.byContradiction fun hn => ?_
  rw [Array.getD_eq_getD_getElem?, Array.getElem?_eq_none (by omega)] at h
  cases h
theorem getD_other {l : Array Bool} {i j : Nat} (d : Bool) (h : i ≠ j) : (l.setIfInBounds i true).getD j d = l.getD j d := getD_set_ne d h

section
variable {K V : Type} [DecidableEq K] {ek : K → Value} {ev : V → Value} {r : Nat} {t k e : TypeId} {om : Operand}

/-- One of the entries that are to be inserted. -/
def InsAt (P : Program) (ops : Array Oper) (md : Region.Mode) (ek : K → Value) (ev : V → Value) (t : TypeId) (om : Operand) (a : Act) (listed : Array Bool) (x : Nat × (K × V)) : Prop :=
  listed.getD x.1 true = false ∧ ∃ o ox ov, ops[x.1]? = some o ∧ o.guard = none ∧ o.op = .insert t om ox ov ∧ o.dst = none ∧ a.eval ox = ek x.2.1 ∧ a.eval ov = ev x.2.2 ∧ ∀ d ∈ o.after, Region.binds md d = true → listed.getD d.on false = true
/-- While one of them is left nothing else comes up. -/
def InsOnly (ops : Array Oper) (md : Region.Mode) (listed : Array Bool) (I : List (Nat × (K × V))) : Prop :=
  ∀ i o, ops[i]? = some o → listed.getD i true = false → (∃ x ∈ I, x.1 = i) ∨ ∀ x ∈ I, ∃ d ∈ o.after, Region.binds md d = true ∧ d.on = x.1

theorem wpAnyV_ins (KE : KeyEnc P k ek) (ht : P.underlying t = some (.map k e)) (a : Act) (hS : ∀ w, S w) (hm : a.eval om = .map (some r)) (fuel : Nat) (L1 : Array Bool) :
    ∀ (n : Nat) (I : List (Nat × (K × V))) (listed : Array Bool) (w : World) (m : List (K × V)), I.length = n → (I.map (·.1)).Nodup → (I.map (·.2.1)).Nodup → (∀ x ∈ I, InsAt P ops md ek ev t om a listed x) → InsOnly ops md listed I → (∀ x ∈ I, mget m x.2.1 = none) →
      L1.size = listed.size → (∀ i, L1.getD i true = (listed.getD i true || decide (∃ x ∈ I, x.1 = i))) → MapAt w r ek ev m →
      (∀ w' m', m'.Perm (m ++ I.map (·.2)) → MapAt w' r ek ev m' → Ext (· = r) w w' → wpAnyV P md ops Q S st fuel L1 a w') → wpAnyV P md ops Q S st (fuel + n) listed a w := by
  intro n
  induction n with
  | zero =>
    intro I listed w m hn _ _ _ _ _ hs hL hM hQ
    obtain rfl := List.eq_nil_of_length_eq_zero hn
    have : L1 = listed := by
      refine Array.ext hs (fun i h1 h2 => ?_)
      have := hL i
      simpa [Array.getD_eq_getD_getElem?, h1, h2] using this
    subst this
    exact hQ w m (by simp) hM (Ext.refl _ _)
  | succ n ih =>
    intro I listed w m hn hd1 hd2 hI hO hnone hs hL hM hQ
    obtain ⟨x0, I0, rfl⟩ : ∃ x0 I0, I = x0 :: I0 := by
      cases I with
      | nil => simp at hn
      | cons x I => exact ⟨x, I, rfl⟩
    have hx0 := hI x0 (List.mem_cons_self ..)
    have hready : x0.1 ∈ Region.ready md ops listed := by
      obtain ⟨h1, o, _, _, h2, _, _, _, _, _, h3⟩ := hx0
      exact mem_ready.2 ⟨h1, o, h2, h3⟩
    refine ⟨fun h => (by rw [h] at hready; cases hready), fun i hi => ?_⟩
    obtain ⟨hun, oi, hoi, hall⟩ := mem_ready.1 hi
    obtain ⟨x, hx, rfl⟩ : ∃ x ∈ x0 :: I0, x.1 = i := by
      rcases hO i oi hoi hun with h | h
      · exact h
      · obtain ⟨d, hd, hb, he⟩ := h x0 (List.mem_cons_self ..)
        have h1 := hall d hd hb
        rw [he] at h1
        have h2 := hx0.1
        have h3 := getD_lt h2
        simp [Array.getD_eq_getD_getElem?, h3] at h1 h2
        rw [h1] at h2; cases h2
    obtain ⟨_, o, ox, ov, h2, h3, h4, h5, h6, h7, h8⟩ := hI x hx
    obtain ⟨l1, l2, hl⟩ := List.append_of_mem hx
    have hmem : ∀ y, y ∈ l1 ++ l2 → y ∈ x0 :: I0 ∧ y.1 ≠ x.1 := fun y hy => by
      rw [hl]
      rw [hl, List.map_append, List.map_cons] at hd1
      have hmid := (List.perm_middle (a := x.1) (l₁ := l1.map (·.1)) (l₂ := l2.map (·.1))).nodup_iff.1 hd1
      rw [List.nodup_cons, ← List.map_append] at hmid
      refine ⟨?_, fun e => hmid.1 (e ▸ List.mem_map.2 ⟨y, hy, rfl⟩)⟩
      rcases List.mem_append.1 hy with h | h
      · exact List.mem_append_left _ h
      · exact List.mem_append_right _ (List.mem_cons_of_mem _ h)
    have hmemK : ∀ y, y ∈ l1 ++ l2 → y.2.1 ≠ x.2.1 := fun y hy => by
      rw [hl, List.map_append, List.map_cons] at hd2
      have hmid := (List.perm_middle (a := x.2.1) (l₁ := l1.map (·.2.1)) (l₂ := l2.map (·.2.1))).nodup_iff.1 hd2
      rw [List.nodup_cons, ← List.map_append] at hmid
      exact fun e => hmid.1 (e ▸ List.mem_map.2 ⟨y, hy, rfl⟩)
    have hback : ∀ y, y ∈ x0 :: I0 → y = x ∨ y ∈ l1 ++ l2 := fun y hy => by
      rw [hl, List.mem_append, List.mem_cons] at hy
      rw [List.mem_append]
      rcases hy with h | h | h
      · exact .inr (.inl h)
      · exact .inl h
      · exact .inr (.inr h)
    refine wpOp_of h2 (fun K' hK' => ?_)
    have hw : Region.wanted o (yielded ops a.tmps) = true := by simp [Region.wanted, h3]
    rw [if_pos hw]
    obtain ⟨w', hrun, hm1, hx1⟩ := hM.run_update KE ht x.2.1 x.2.2
    unfold Oper.wp
    simp [execOp, h4, hm, h6, h7, hrun]
    show K' (a.put o.dst undef) w'
    rw [h5]
    rw [mput_fresh (hnone x hx)] at hm1
    refine hK'.out _ _ (.inr (hS w')) ?_
    refine ih (l1 ++ l2) _ w' (m ++ [x.2]) (by rw [hl] at hn; simp at hn ⊢; omega) ?_ ?_ (fun y hy => ?_) (fun i o' ho' hu => ?_) (fun y hy => ?_) (by simp [hs]) (fun i => ?_) hm1 (fun w2 m2 hp hM2 hx2 => hQ w2 m2 ?_ hM2 (hx1.trans hx2 (fun _ _ e => e)))
    · rw [hl] at hd1; exact hd1.sublist (((List.Sublist.refl l1).append (List.sublist_cons_self x l2)).map _)
    · rw [hl] at hd2; exact hd2.sublist (((List.Sublist.refl l1).append (List.sublist_cons_self x l2)).map _)
    · obtain ⟨h9, h10⟩ := hmem y hy
      obtain ⟨g1, o', ox', ov', g2, g3, g4, g5, g6, g7, g8⟩ := hI y h9
      refine ⟨by rw [getD_other true (Ne.symm h10)]; exact g1, o', ox', ov', g2, g3, g4, g5, g6, g7, fun d hd hb => ?_⟩
      exact getD_set_true (g8 d hd hb)
    · have hne : i ≠ x.1 := fun e => by
        subst e
        rw [getD_set_self hun] at hu; cases hu
      rw [getD_other true (Ne.symm hne)] at hu
      rcases hO i o' ho' hu with ⟨y, hy, hyi⟩ | h
      · rcases hback y hy with rfl | hy
        · exact absurd hyi.symm hne
        · exact .inl ⟨y, hy, hyi⟩
      · exact .inr (fun y hy => h y (hmem y hy).1)
    · rw [mget_append, hnone y (hmem y hy).1, mget_cons, if_neg (fun e => hmemK y hy e.symm), mget_nil]; rfl
    · rw [hL i]
      by_cases hix : x.1 = i
      · subst hix
        rw [getD_set_self hun]
        have : decide (∃ y ∈ x0 :: I0, y.1 = x.1) = true := decide_eq_true ⟨x, hx, rfl⟩
        rw [this]; simp
      · rw [getD_other true hix]
        congr 1
        rw [Bool.eq_iff_iff, decide_eq_true_iff, decide_eq_true_iff]
        constructor
        · rintro ⟨y, hy, hyi⟩
          rcases hback y hy with rfl | hy
          · exact absurd hyi hix
          · exact ⟨y, hy, hyi⟩
        · rintro ⟨y, hy, hyi⟩
          exact ⟨y, (hmem y hy).1, hyi⟩
    · refine hp.trans ?_
      rw [hl, List.append_assoc]
      refine List.Perm.append_left m ?_
      rw [List.map_append, List.map_append, List.map_cons]
      show (x.2 :: (l1.map (·.2) ++ l2.map (·.2))).Perm _
      exact List.perm_middle.symm

end

theorem after_ok {o : Oper} {listed : Array Bool} (h : o.after.all (fun d => listed.getD d.on false) = true) : ∀ d ∈ o.after, Region.binds md d = true → listed.getD d.on false = true := fun d hd _ => by
  rw [Array.all_eq_true'] at h
  exact h d hd
def insOnlyB (ops : Array Oper) (md : Region.Mode) (listed : Array Bool) (J : List Nat) : Bool :=
  (List.range ops.size).all (fun i => listed.getD i true || J.contains i || match ops[i]? with | none => true | some o => J.all (fun j => o.after.any (fun d => Region.binds md d && d.on == j)))
theorem insOnly_of {K V : Type} {listed : Array Bool} {I : List (Nat × (K × V))} (h : insOnlyB ops md listed (I.map (·.1)) = true) : InsOnly ops md listed I := fun i o ho hu => by
  unfold insOnlyB at h
  rw [List.all_eq_true] at h
  have hi := h i (List.mem_range.2 (Array.getElem?_eq_some_iff.1 ho).1)
  rw [hu, ho] at hi
  simp only [Bool.false_or, Bool.or_eq_true] at hi
  rcases hi with hi | hi
  · left
    have := List.contains_iff_mem.1 hi
    obtain ⟨x, hx, e⟩ := List.mem_map.1 this
    exact ⟨x, hx, e⟩
  · right
    intro x hx
    rw [List.all_eq_true] at hi
    have := hi x.1 (List.mem_map.2 ⟨x, hx, rfl⟩)
    rw [Array.any_eq_true'] at this
    obtain ⟨d, hd, hb⟩ := this
    simp only [Bool.and_eq_true, beq_iff_eq] at hb
    exact ⟨d, hd, hb⟩
theorem insL_of {K V : Type} {listed L1 : Array Bool} {I : List (Nat × (K × V))} (hs : L1.size = listed.size) (h : (List.range listed.size).all (fun i => L1.getD i true == (listed.getD i true || (I.map (·.1)).contains i)) = true) (hI : ∀ x ∈ I, x.1 < listed.size) :
    ∀ i, L1.getD i true = (listed.getD i true || decide (∃ x ∈ I, x.1 = i)) := fun i => by
  rw [List.all_eq_true] at h
  by_cases hi : i < listed.size
  · have := h i (List.mem_range.2 hi)
    rw [beq_iff_eq] at this
    rw [this]
    congr 1
    rw [Bool.eq_iff_iff, decide_eq_true_iff, List.contains_iff_mem, List.mem_map]
  · have h1 : L1.getD i true = true := by rw [Array.getD_eq_getD_getElem?, Array.getElem?_eq_none (by omega)]; rfl
    have h2 : listed.getD i true = true := by rw [Array.getD_eq_getD_getElem?, Array.getElem?_eq_none (by omega)]; rfl
    rw [h1, h2]; rfl
end
end Go.Proofs.YtgiimmiandhkhaaDoor
