/- A range over a map: which entries are still to come. -/
import Derived.Test.YtgiimmiandhkhaaDoorKeys
import Derived.Maps.RangeRun
namespace Go.Proofs.YtgiimmiandhkhaaDoor
open Go.RowKit
set_option linter.unusedSimpArgs false
set_option linter.unusedVariables false

section
variable {K V : Type} {ek : K → Value} {ev : V → Value} {w w' : World} {it r : Nat} {m left : List (K × V)} {cur : Option (K × V)}

/-- Block it goes through the map m at block r: 'left' is to come, 'cur' is the one that came last and is still there. -/
def IterAt (w : World) (it r : Nat) {K V : Type} (ek : K → Value) (ev : V → Value) (m : List (K × V)) (cur : Option (K × V)) (left : List (K × V)) : Prop :=
  ∃ es clock since seen c0, w.heap[r]? = some (.map es clock) ∧ Entries ek ev es clock m ∧ w.heap[it]? = some (.mapIter (some r) since seen c0) ∧ (∀ x ∈ es.toList, x.born < since) ∧ since ≤ c0 ∧ since ≤ clock ∧
    (leftOf es seen).toList.map (fun e => (e.key, e.val)) = left.map (fun x => (ek x.1, ev x.2)) ∧
    (∀ x, cur = some x → c0 = clock ∧ ∃ e ∈ es.toList, (∃ s : Array Nat, seen = s.push e.born) ∧ e.key = ek x.1 ∧ e.val = ev x.2)

theorem IterAt.mapAt (h : IterAt w it r ek ev m cur left) : MapAt w r ek ev m := by
  obtain ⟨es, clock, since, seen, c0, hb, he, _⟩ := h
  exact ⟨es, clock, hb, he⟩
theorem IterAt.lt (h : IterAt w it r ek ev m cur left) : it < w.heap.size := by
  obtain ⟨es, clock, since, seen, c0, hb, he, hi, _⟩ := h
  exact lt_of_block hi
theorem IterAt.ne_cell (h : IterAt w it r ek ev m cur left) {a : Addr} {v : Value} (hc : w.cell? a = some v) : a.block ≠ it := by
  obtain ⟨es, clock, since, seen, c0, hb, he, hi, _⟩ := h
  intro e
  simp [World.cell?, e, hi] at hc
theorem IterAt.ne_map (h : IterAt w it r ek ev m cur left) {r' : Nat} {K' V' : Type} {ek' : K' → Value} {ev' : V' → Value} {m' : List (K' × V')} (hm : MapAt w r' ek' ev' m') : r' ≠ it := by
  obtain ⟨es, clock, since, seen, c0, hb, he, hi, _⟩ := h
  obtain ⟨es', c', hb', _⟩ := hm
  intro e
  rw [e, hi] at hb'
  simp at hb'
theorem IterAt.of_blocks (h : IterAt w it r ek ev m cur left) (e1 : w'.heap[r]? = w.heap[r]?) (e2 : w'.heap[it]? = w.heap[it]?) : IterAt w' it r ek ev m cur left := by
  obtain ⟨es, clock, since, seen, c0, hb, he, hi, rest⟩ := h
  exact ⟨es, clock, since, seen, c0, e1.trans hb, he, e2.trans hi, rest⟩
theorem IterAt.keep {F : Nat → Prop} (h : IterAt w it r ek ev m cur left) (x : Ext F w w') (h1 : ¬ F r) (h2 : ¬ F it) : IterAt w' it r ek ev m cur left :=
  h.of_blocks (x.block r h.mapAt.lt h1) (x.block it h.lt h2)

theorem ext_set {r : Nat} (w : World) (o : Obj) : Ext (· = r) w { w with heap := w.heap.setIfInBounds r o } :=
  ⟨rfl, rfl, rfl, by simp, fun k hk hn => by simp [Array.getElem?_setIfInBounds, Ne.symm hn]⟩

/-- range m. -/
theorem MapAt.run_range {P : Program} {t k e : TypeId} (ht : P.underlying t = some (.map k e)) (h : MapAt w r ek ev m) :
    ∃ w', (Instr.range t (.map (some r))).run P w = .ok (.pointer (some ⟨w.heap.size, 0, none⟩)) w' ∧ IterAt w' w.heap.size r ek ev m none m ∧ Ext NoB w w' := by
  obtain ⟨es, clock, hb, he⟩ := h
  have hlt := lt_of_block hb
  refine ⟨_, run_range_map w t k e r es clock ht hb, ⟨es, clock, clock, #[], clock, ?_, he, alloc_at _ _, he.clock, Nat.le_refl _, Nat.le_refl _, ?_, by simp⟩, (Ext.refl _ _).alloc _⟩
  · rw [Below.heap_alloc _ _ _ hlt]; exact hb
  · have : leftOf es #[] = es := by unfold leftOf; rw [Array.filter_eq_self]; simp
    rw [this]; exact he.eq

theorem leftOf_push {es : Array MapEntry} {seen : Array Nat} (hn : (es.toList.map (·.born)).Nodup) {l1 l2 : List MapEntry} {e : MapEntry} (h : (leftOf es seen).toList = l1 ++ e :: l2) : (leftOf es (seen.push e.born)).toList = l1 ++ l2 := by
  have h1 : (leftOf es (seen.push e.born)).toList = (leftOf es seen).toList.filter (fun x => x.born != e.born) := by
    unfold leftOf
    simp only [Array.toList_filter, List.filter_filter]
    congr 1
    funext x
    rw [Array.contains_push]
    cases seen.contains x.born <;> simp [bne]
  rw [h1, h]
  have hsub : (leftOf es seen).toList.Sublist es.toList := by unfold leftOf; rw [Array.toList_filter]; exact List.filter_sublist
  have hd : ((l1 ++ e :: l2).map (·.born)).Nodup := by rw [← h]; exact hn.sublist (hsub.map _)
  rw [List.map_append, List.map_cons] at hd
  have hd' := List.nodup_append.1 hd
  have a1 : l1.filter (fun x => x.born != e.born) = l1 := by
    rw [List.filter_eq_self]
    intro x hx
    have := hd'.2.2 x.born (List.mem_map.2 ⟨x, hx, rfl⟩) e.born (by simp)
    simpa using this
  have a2 : l2.filter (fun x => x.born != e.born) = l2 := by
    rw [List.filter_eq_self]
    intro x hx
    have h3 := (List.nodup_cons.1 hd'.2.1).1
    have : x.born ≠ e.born := fun c => h3 (c ▸ List.mem_map.2 ⟨x, hx, rfl⟩)
    simpa using this
  rw [List.filter_append, List.filter_cons, a1, a2]
  simp

theorem pairwise_nodup {l : List Nat} (h : l.Pairwise (· < ·)) : l.Nodup := h.imp (fun h => Nat.ne_of_lt h)

/-- next. -/
theorem IterAt.run_next {P : Program} (ty : TypeId) (h : IterAt w it r ek ev m cur left) :
    (left = [] ∧ (Instr.next (.pointer (some ⟨it, 0, none⟩)) false ty).run P w = .ok (.tuple #[.bool false]) w) ∨
    ∃ l1 x l2 w', left = l1 ++ x :: l2 ∧ (Instr.next (.pointer (some ⟨it, 0, none⟩)) false ty).run P w = .ok (.tuple #[.bool true, ek x.1, ev x.2]) w' ∧ IterAt w' it r ek ev m (some x) (l1 ++ l2) ∧ Ext (· = it) w w' := by
  have hne : r ≠ it := h.ne_map h.mapAt
  obtain ⟨es, clock, since, seen, c0, hb, he, hi, hold, hsc, hsk, hleft, hcur⟩ := h
  rcases run_next_at (P := P) w ty it r since c0 seen es clock hi hb hold hsc with ⟨h0, hrun⟩ | ⟨e, hem, w1, hw1, hrun⟩
  · refine .inl ⟨?_, hrun⟩
    have : (leftOf es seen).toList = [] := by simpa using h0
    rw [this] at hleft
    simpa using hleft.symm
  · obtain ⟨m1, m2, hsplit⟩ := List.append_of_mem hem
    rw [hsplit, List.map_append, List.map_cons] at hleft
    obtain ⟨l1, l2', hl, h1, h2'⟩ := List.append_eq_map_iff.1 hleft
    obtain ⟨x, l2, hx, h3, h4⟩ := List.map_eq_cons_iff.1 h2'
    subst hx
    simp only [Prod.mk.injEq] at h3
    have hlt : it < w1.heap.size := by rcases hw1 with rfl | rfl <;> exact lt_of_block hi
    have hb1 : w1.heap[r]? = some (.map es clock) := by rcases hw1 with rfl | rfl <;> exact hb
    have hx1 : Ext (· = it) w w1 := by rcases hw1 with rfl | rfl; exact Ext.refl _ _; exact (Ext.refl _ _).drew
    refine .inr ⟨l1, x, l2, ChangeMaps.setBlock w1 it (.mapIter (some r) since (seen.push e.born) clock), hl, by rw [hrun, ← h3.1, ← h3.2], ⟨es, clock, since, seen.push e.born, clock, ?_, he, ?_, hold, hsk, hsk, ?_, ?_⟩, ?_⟩
    · simp [ChangeMaps.setBlock, Array.getElem?_setIfInBounds, Ne.symm hne, hb1]
    · simp [ChangeMaps.setBlock, hlt]
    · rw [leftOf_push (pairwise_nodup he.born) hsplit, List.map_append, List.map_append, h1, h4]
    · intro y hy
      cases hy
      refine ⟨rfl, e, ?_, ⟨seen, rfl⟩, h3.1.symm, h3.2.symm⟩
      exact (mem_left hem).1
    · exact hx1.trans (ext_set w1 _) (fun _ _ h => h)

/-- entry. -/
theorem IterAt.run_entry {P : Program} {x : K × V} (h : IterAt w it r ek ev m (some x) left) : (Instr.entry (.pointer (some ⟨it, 0, none⟩))).run P w = .ok (.tuple #[ek x.1, ev x.2]) w := by
  obtain ⟨es, clock, since, seen, c0, hb, he, hi, hold, hsc, hsk, hleft, hcur⟩ := h
  obtain ⟨rfl, e, hem, ⟨s, rfl⟩, hk, hv⟩ := hcur x rfl
  rw [← hk, ← hv]
  exact run_entry_at w it r since s es c0 e hi hb hem (pairwise_nodup he.born)

/-- What is to come is in the map. -/
theorem IterAt.sub (KI : ∀ {x y : K}, ek x = ek y → x = y) (VI : ∀ {x y : V}, ev x = ev y → x = y) (h : IterAt w it r ek ev m cur left) : left.Sublist m := by
  obtain ⟨es, clock, since, seen, c0, hb, he, hi, hold, hsc, hsk, hleft, hcur⟩ := h
  have hs : (leftOf es seen).toList.Sublist es.toList := by unfold leftOf; rw [Array.toList_filter]; exact List.filter_sublist
  have hs2 := hs.map (fun e => (e.key, e.val))
  rw [hleft, he.eq] at hs2
  obtain ⟨l, hl, hle⟩ := List.sublist_map_iff.1 hs2
  have : left = l := by
    refine (List.map_inj_right ?_).1 hle
    intro a b hab
    simp only [Prod.mk.injEq] at hab
    exact Prod.ext (KI hab.1) (VI hab.2)
  rw [this]; exact hl

/-- The entry that came last is struck. -/
theorem IterAt.run_delete [DecidableEq K] {P : Program} {t k e : TypeId} (KE : KeyEnc P k ek) (ht : P.underlying t = some (.map k e)) {x : K × V} (h : IterAt w it r ek ev m (some x) left) (ts : Array TypeId) (hts : ts[0]? = some t) (ty : TypeId) :
    ∃ w', (Builtin.delete_ ts ty #[.map (some r), ek x.1]).run P w = .ok (.tuple #[]) w' ∧ IterAt w' it r ek ev (mdel m x.1) none left ∧ Ext (· = r) w w' := by
  have hne : r ≠ it := h.ne_map h.mapAt
  obtain ⟨es, clock, since, seen, c0, hb, he, hi, hold, hsc, hsk, hleft, hcur⟩ := h
  obtain ⟨rfl, e0, hem, ⟨s, rfl⟩, hk, hv⟩ := hcur x rfl
  have hlt := lt_of_block hb
  rcases he.find KE w x.1 with ⟨h1, h2⟩ | ⟨j, v0, h1, hj, h2, e1, he1, hk1⟩
  · exfalso
    have : (ek x.1, ev x.2) ∈ es.toList.map (fun e => (e.key, e.val)) := List.mem_map.2 ⟨e0, hem, by rw [hk, hv]⟩
    rw [he.eq] at this
    obtain ⟨p, hp, hpe⟩ := List.mem_map.1 this
    exact mget_none.1 h1 p hp (KE.inj (congrArg Prod.fst hpe))
  · refine ⟨{ w with heap := w.heap.setIfInBounds r (.map (es.eraseIdxIfInBounds j) c0) }, by
      simp [Builtin.delete_, hts, run_underlying ht, MapKept.run_getObj_map hb, KE.check, h2, MapKept.run_setObj_map _ hb],
      ⟨es.eraseIdxIfInBounds j, c0, since, s.push e0.born, c0, by simp [hlt], he.del hj, ?_, ?_, hsc, hsk, ?_, by simp⟩, ext_set w _⟩
    · simp [Array.getElem?_setIfInBounds, hne, hi]
    · intro y hy
      have hlen : es.size = m.length := by have := congrArg List.length he.eq; simpa using this
      have hjm : j < m.length := (List.getElem?_eq_some_iff.1 hj).1
      have hes : (es.eraseIdxIfInBounds j).toList = es.toList.eraseIdx j := by unfold Array.eraseIdxIfInBounds; rw [dif_pos (by omega)]; simp
      rw [hes] at hy
      exact hold y ((List.eraseIdx_sublist ..).subset hy)
    · have hlen : es.size = m.length := by have := congrArg List.length he.eq; simpa using this
      have hjm : j < m.length := (List.getElem?_eq_some_iff.1 hj).1
      have hes : (es.eraseIdxIfInBounds j).toList = es.toList.eraseIdx j := by unfold Array.eraseIdxIfInBounds; rw [dif_pos (by omega)]; simp
      have hje : es.toList[j]? = some e0 := by
        -- the entry with the key of x is e0 itself
        obtain ⟨i, hi', hie⟩ := List.getElem_of_mem hem
        have g1 := he.get i
        have g2 := he.get j
        rw [show es[i]? = some e0 by simpa using List.getElem?_eq_some_iff.2 ⟨hi', hie⟩] at g1
        rw [he1, hj] at g2
        cases hmi : m[i]? with
        | none => rw [hmi] at g1; simp at g1
        | some p =>
          rw [hmi] at g1
          simp only [Option.map_some, Option.some.injEq, Prod.mk.injEq] at g1
          have hpx : p.1 = x.1 := KE.inj (g1.1.symm.trans hk)
          have e2 : (m.map (·.1))[i]? = some x.1 := by simp [hmi, hpx]
          have e3 : (m.map (·.1))[j]? = some x.1 := by simp [hj]
          rw [← nodup_getElem?_inj he.nodup e2 e3]
          exact List.getElem?_eq_some_iff.2 ⟨hi', hie⟩
      rw [← hleft]
      congr 1
      unfold leftOf
      rw [Array.toList_filter, Array.toList_filter, hes]
      have key : ∀ (l : List MapEntry) (i : Nat), l[i]? = some e0 → (l.eraseIdx i).filter (fun e => !(s.push e0.born).contains e.born) = l.filter (fun e => !(s.push e0.born).contains e.born) := by
        intro l
        induction l with
        | nil => intro i h; simp at h
        | cons y l ih =>
          intro i h
          cases i with
          | zero =>
            simp only [List.getElem?_cons_zero, Option.some.injEq] at h
            subst h
            simp [List.filter_cons]
          | succ i =>
            simp only [List.getElem?_cons_succ] at h
            rw [List.eraseIdx_cons_succ, List.filter_cons, List.filter_cons, ih i h]
      exact key _ j hje

/-! ### at the operations -/

theorem wpList_range {P : Program} {ops : Array Oper} {rest : List Oper} {o : Oper} {a : Act} {Q : Exit → Act → World → Prop} (hgd : o.guard = none) {t k e : TypeId} {om : Operand} (ho : o.op = .range t om)
    (ht : P.underlying t = some (.map k e)) (h : MapAt w r ek ev m) (hm : a.eval om = .map (some r))
    (hK : ∀ it w', w.heap.size ≤ it → IterAt w' it r ek ev m none m → Ext NoB w w' → wpList P ops Q rest (a.put o.dst (.pointer (some ⟨it, 0, none⟩))) w') : wpList P ops Q (o :: rest) a w := by
  refine wpList_plain hgd fun K' hK' => ?_
  obtain ⟨w', hrun, h1, h2⟩ := h.run_range ht
  unfold Oper.wp
  simp [execOp, ho, hm, hrun]
  exact hK' _ _ (hK _ w' (Nat.le_refl _) h1 h2)

theorem wpList_next {P : Program} {ops : Array Oper} {rest : List Oper} {o : Oper} {a : Act} {Q : Exit → Act → World → Prop} (hgd : o.guard = none) {oi : Operand} (ho : o.op = .next oi false)
    (h : IterAt w it r ek ev m cur left) (hi : a.eval oi = .pointer (some ⟨it, 0, none⟩))
    (hN : left = [] → wpList P ops Q rest (a.put o.dst (.tuple #[.bool false])) w)
    (hK : ∀ l1 x l2 w', left = l1 ++ x :: l2 → IterAt w' it r ek ev m (some x) (l1 ++ l2) → Ext (· = it) w w' → (Instr.entry (.pointer (some ⟨it, 0, none⟩))).run P w' = .ok (.tuple #[ek x.1, ev x.2]) w' → wpList P ops Q rest (a.put o.dst (.tuple #[.bool true, ek x.1, ev x.2])) w') : wpList P ops Q (o :: rest) a w := by
  refine wpList_plain hgd fun K' hK' => ?_
  unfold Oper.wp
  rcases h.run_next (P := P) o.type with ⟨h0, hrun⟩ | ⟨l1, x, l2, w', h1, hrun, h2, h3⟩
  · simp [execOp, ho, hi, hrun]
    exact hK' _ _ (hN h0)
  · simp [execOp, ho, hi, hrun]
    exact hK' _ _ (hK l1 x l2 w' h1 h2 h3 h2.run_entry)

theorem wpList_iterDel [DecidableEq K] {P : Program} {ops : Array Oper} {rest : List Oper} {o : Oper} {a : Act} {Q : Exit → Act → World → Prop} (hgd : o.guard = none) {t k e : TypeId} {om ox : Operand} {ts : Array TypeId} (ho : o.op = .call { callee := .builtin .delete, args := #[om, ox], argTypes := ts }) (hts : ts[0]? = some t)
    (KE : KeyEnc P k ek) (ht : P.underlying t = some (.map k e)) {x : K × V} (h : IterAt w it r ek ev m (some x) left) (hm : a.eval om = .map (some r)) (hx : a.eval ox = ek x.1)
    (hK : ∀ w', IterAt w' it r ek ev (mdel m x.1) none left → Ext (· = r) w w' → wpList P ops Q rest (a.put o.dst (.tuple #[])) w') : wpList P ops Q (o :: rest) a w := by
  refine wpList_plain hgd fun K' hK' => ?_
  obtain ⟨w', hrun, h1, h2⟩ := h.run_delete KE ht ts hts o.type
  unfold Oper.wp
  simp [execOp, ho, resolve, invoke, builtin, hm, hx, hrun]
  exact hK' _ _ (hK w' h1 h2)

end
end Go.Proofs.YtgiimmiandhkhaaDoor
