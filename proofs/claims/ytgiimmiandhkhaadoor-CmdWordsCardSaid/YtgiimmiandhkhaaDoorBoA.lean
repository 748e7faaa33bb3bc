/- The bodies: the library's variables; words, spans. -/
import Derived.Test.YtgiimmiandhkhaaDoorProg
import Derived.Test.YtgiimmiandhkhaaDoorKeys
import Derived.Test.YtgiimmiandhkhaaDoorStep
import Derived.Test.YtgiimmiandhkhaaDoorIns
import Derived.Lib.AppendIntMem
import Derived.Lib.ItoaNum
import Derived.Outline
namespace Go.Proofs.YtgiimmiandhkhaaDoor
open Go.RowKit
set_option linter.unusedSimpArgs false
set_option linter.unusedVariables false
attribute [local go_sem] pairV

/-- What the library's variables hold. -/
structure Gl (w : World) : Prop where
  len : ∃ m, w.cell? ⟨0, 0, none⟩ = some (.int .i64 m)
  syn : ∃ ev, w.cell? ⟨4, 0, none⟩ = some ev ∧ (ev = .nilIface ∨ ∃ te pe, ev = .iface te pe)
  rng : ∃ ev, w.cell? ⟨5, 0, none⟩ = some ev ∧ (ev = .nilIface ∨ ∃ te pe, ev = .iface te pe)
  tab : Lib.TabIs Tryd.prog w "internal/strconv.uint64pow10" .u64 Lib.pow10Tab
theorem Gl.keep {w w' : World} (h : Gl w) (x : Ext NoB w w') : Gl w' := by
  obtain ⟨⟨m, h1⟩, ⟨ev, h2, h2'⟩, ⟨er, h3, h3'⟩, h4⟩ := h
  exact ⟨⟨m, x.cell h1 nb⟩, ⟨ev, x.cell h2 nb, h2'⟩, ⟨er, x.cell h3 nb, h3'⟩, Lib.tabBelow_of_tabIs h4 w' (x.below (fun _ _ => nb))⟩

def strV (s : ByteArray) : Value := .string s
/-- The kinds' words. -/
def wordsL : List ((Int × Int) × ByteArray) := [((1, 0), ⟨#[110, 111, 112]⟩), ((2, 1), ⟨#[115, 117, 98, 109, 105, 116]⟩), ((3, 2), ⟨#[97, 102, 116, 101, 114]⟩), ((4, 1), ⟨#[99, 97, 110, 99, 101, 108]⟩), ((5, 0), ⟨#[112, 97, 110, 105, 99]⟩)]
/-- The numbers that may be. -/
def spansL : List ((Int × Int) × (Int × Int)) := [((2, 0), (0, 7)), ((3, 0), (0, 7)), ((3, 1), (0, 1000000)), ((4, 0), (1, 1000))]

theorem key_shape : KeyEnc Tryd.prog 104 (pairV .i64) := pair_key (e := 3) Tryd.underlying104 Tryd.underlying3 (by kernel_rfl)

section
variable {K V : Type} {ek : K → Value} {ev : V → Value} {w w' : World} {r : Nat} {m : List (K × V)}
theorem step_mapIns [DecidableEq K] {P : Program} {ops : Array Oper} {o : Oper} {a : Act} {N : Act → World → Prop} {Q : Exit → Act → World → Prop} {X : Prop} (hgd : o.guard = none) {t k e : TypeId} {om ox ov : Operand} (ho : o.op = .insert t om ox ov)
    (KE : KeyEnc P k ek) (ht : P.underlying t = some (.map k e)) (h : MapAt w r ek ev m) (hm : a.eval om = .map (some r)) (x : K) (hx : a.eval ox = ek x) (v : V) (hv : a.eval ov = ev v)
    (hK : ∀ w', MapAt w' r ek ev (mput m x v) → Ext (· = r) w w' → N (a.put o.dst undef) w') : if Region.wanted o (yielded ops a.tmps) = true then Oper.wp P o a w N Q else X := by
  have hw : Region.wanted o (yielded ops a.tmps) = true := by simp [Region.wanted, hgd]
  rw [if_pos hw]
  obtain ⟨w', hrun, h1, h2⟩ := h.run_update KE ht x v
  unfold Oper.wp
  simp [execOp, ho, hm, hx, hv, hrun]
  exact hK w' h1 h2
end

def Tr (_ : World) : Prop := True
theorem tr (w : World) : Tr w := trivial

/- @END -/
set_option maxRecDepth 100000 in
set_option maxHeartbeats 4000000 in
theorem words_calls (w : World) : Calls Tryd.prog 63 #[] w fun e w' => ∃ r m, e = .returned (.map (some r)) ∧ MapAt w' r (pairV .i64) strV m ∧ m.Perm wordsL ∧ Ext NoB w w' ∧ w.heap.size ≤ r := by
  have hmm := @run_makeMap Tryd.prog
  have m0 := (MapAt.made (ek := pairV .i64) (ev := strV) w).keep (Ext.refl NoB _).drew nb
  go_enter Tryd.func63, Tryd.ntmps63
  go_wp2_with fail
  refine wp_region_V 13 (fun _ => True) (by kernel_rfl) ?_
  try simp only [Act.put, List.setIfInBounds_toArray, List.set_cons_zero, List.set_cons_succ]
  refine wpAnyV_take0 (i := 1) (by kernel_rfl) (by kernel_rfl) (by kernel_rfl) (by kernel_rfl) (by kernel_rfl) trivial (fun o ho => ?_)
  conv at ho => rhs; whnf
  subst ho
  refine ⟨?_, fun _ _ _ h => h, Or.inl ⟨by rfl, ?_⟩, ?_⟩
  rotate_left
  · intro w hSw
    first | (go_simp; done) | (go_simp; with_reducible rfl)
  try simp only [Act.put, List.setIfInBounds_toArray, List.set_cons_zero, List.set_cons_succ]
  refine wpAnyV_take0 (i := 3) (by kernel_rfl) (by kernel_rfl) (by kernel_rfl) (by kernel_rfl) (by kernel_rfl) trivial (fun o ho => ?_)
  conv at ho => rhs; whnf
  subst ho
  refine ⟨?_, fun _ _ _ h => h, Or.inl ⟨by rfl, ?_⟩, ?_⟩
  rotate_left
  · intro w hSw
    first | (go_simp; done) | (go_simp; with_reducible rfl)
  try simp only [Act.put, List.setIfInBounds_toArray, List.set_cons_zero, List.set_cons_succ]
  refine wpAnyV_take0 (i := 5) (by kernel_rfl) (by kernel_rfl) (by kernel_rfl) (by kernel_rfl) (by kernel_rfl) trivial (fun o ho => ?_)
  conv at ho => rhs; whnf
  subst ho
  refine ⟨?_, fun _ _ _ h => h, Or.inl ⟨by rfl, ?_⟩, ?_⟩
  rotate_left
  · intro w hSw
    first | (go_simp; done) | (go_simp; with_reducible rfl)
  try simp only [Act.put, List.setIfInBounds_toArray, List.set_cons_zero, List.set_cons_succ]
  refine wpAnyV_take0 (i := 7) (by kernel_rfl) (by kernel_rfl) (by kernel_rfl) (by kernel_rfl) (by kernel_rfl) trivial (fun o ho => ?_)
  conv at ho => rhs; whnf
  subst ho
  refine ⟨?_, fun _ _ _ h => h, Or.inl ⟨by rfl, ?_⟩, ?_⟩
  rotate_left
  · intro w hSw
    first | (go_simp; done) | (go_simp; with_reducible rfl)
  try simp only [Act.put, List.setIfInBounds_toArray, List.set_cons_zero, List.set_cons_succ]
  refine wpAnyV_take0 (i := 9) (by kernel_rfl) (by kernel_rfl) (by kernel_rfl) (by kernel_rfl) (by kernel_rfl) trivial (fun o ho => ?_)
  conv at ho => rhs; whnf
  subst ho
  refine ⟨?_, fun _ _ _ h => h, Or.inl ⟨by rfl, ?_⟩, ?_⟩
  rotate_left
  · intro w hSw
    first | (go_simp; done) | (go_simp; with_reducible rfl)
  try simp only [Act.put, List.setIfInBounds_toArray, List.set_cons_zero, List.set_cons_succ]
  refine wpAnyV_one (i := 0) (by kernel_rfl) (by kernel_rfl) (fun o ho K hK => ?_)
  conv at ho => rhs; whnf
  subst ho
  go_simp
  refine hK.out _ _ (Or.inr trivial) ?_
  clear hK K
  try simp only [Act.put, List.setIfInBounds_toArray, List.set_cons_zero, List.set_cons_succ]
  refine wpAnyV_ins (ek := pairV .i64) (ev := strV) (om := .tmp 1) key_shape Tryd.underlying102 _ (fun _ => trivial) rfl 2 #[true, true, true, true, true, true, true, true, true, true, true, false, false] 5 [(2, ((1, 0), ⟨#[110, 111, 112]⟩)), (4, ((2, 1), ⟨#[115, 117, 98, 109, 105, 116]⟩)), (6, ((3, 2), ⟨#[97, 102, 116, 101, 114]⟩)), (8, ((4, 1), ⟨#[99, 97, 110, 99, 101, 108]⟩)), (10, ((5, 0), ⟨#[112, 97, 110, 105, 99]⟩))] #[true, true, false, true, false, true, false, true, false, true, false, false, false] _ [] rfl (by decide) (by decide) ?_ (insOnly_of (by kernel_rfl)) (fun _ _ => rfl) rfl (insL_of rfl (by kernel_rfl) (by decide)) m0 (fun w2 m2 hp hM hx => ?_)
  · intro x hx
    simp only [List.mem_cons, List.not_mem_nil, or_false] at hx
    rcases hx with rfl | rfl | rfl | rfl | rfl
    all_goals
      refine ⟨rfl, _, _, _, rfl, rfl, rfl, rfl, rfl, rfl, after_ok ?_⟩
      kernel_rfl
  · refine wpAnyV_one (i := 11) (by kernel_rfl) (by kernel_rfl) (fun o ho K hK => ?_)
    conv at ho => rhs; whnf
    subst ho
    go_simp
    refine hK.out _ _ (Or.inr trivial) ?_
    clear hK K
    try simp only [Act.put, List.setIfInBounds_toArray, List.set_cons_zero, List.set_cons_succ]
    refine wpAnyV_one (i := 12) (by kernel_rfl) (by kernel_rfl) (fun o ho K hK => ?_)
    conv at ho => rhs; whnf
    subst ho
    go_simp
    refine hK.out _ _ (Or.inr trivial) ?_
    clear hK K
    try simp only [Act.put, List.setIfInBounds_toArray, List.set_cons_zero, List.set_cons_succ]
    refine wpAnyV_done (by kernel_rfl) ?_ _
    go_wp2_with fail
    go_ret
    exact ⟨w.heap.size, m2, rfl, hM, hp, ((Ext.refl NoB w).alloc (.map #[] 0)).drew.trans hx (fun q h1 h2 => by omega), Nat.le_refl _⟩

set_option maxRecDepth 100000 in
set_option maxHeartbeats 4000000 in
theorem spans_calls (w : World) : Calls Tryd.prog 70 #[] w fun e w' => ∃ r m, e = .returned (.map (some r)) ∧ MapAt w' r (pairV .i64) (pairV .i64) m ∧ m.Perm spansL ∧ Ext NoB w w' ∧ w.heap.size ≤ r := by
  have hmm := @run_makeMap Tryd.prog
  have m0 := (MapAt.made (ek := pairV .i64) (ev := (pairV .i64)) w).keep (Ext.refl NoB _).drew nb
  go_enter Tryd.func70, Tryd.ntmps70
  go_wp2_with fail
  refine wp_region_V 15 (fun _ => True) (by kernel_rfl) ?_
  try simp only [Act.put, List.setIfInBounds_toArray, List.set_cons_zero, List.set_cons_succ]
  refine wpAnyV_take0 (i := 1) (by kernel_rfl) (by kernel_rfl) (by kernel_rfl) (by kernel_rfl) (by kernel_rfl) trivial (fun o ho => ?_)
  conv at ho => rhs; whnf
  subst ho
  refine ⟨?_, fun _ _ _ h => h, Or.inl ⟨by rfl, ?_⟩, ?_⟩
  rotate_left
  · intro w hSw
    first | (go_simp; done) | (go_simp; with_reducible rfl)
  try simp only [Act.put, List.setIfInBounds_toArray, List.set_cons_zero, List.set_cons_succ]
  refine wpAnyV_take0 (i := 2) (by kernel_rfl) (by kernel_rfl) (by kernel_rfl) (by kernel_rfl) (by kernel_rfl) trivial (fun o ho => ?_)
  conv at ho => rhs; whnf
  subst ho
  refine ⟨?_, fun _ _ _ h => h, Or.inl ⟨by rfl, ?_⟩, ?_⟩
  rotate_left
  · intro w hSw
    first | (go_simp; done) | (go_simp; with_reducible rfl)
  try simp only [Act.put, List.setIfInBounds_toArray, List.set_cons_zero, List.set_cons_succ]
  refine wpAnyV_take0 (i := 4) (by kernel_rfl) (by kernel_rfl) (by kernel_rfl) (by kernel_rfl) (by kernel_rfl) trivial (fun o ho => ?_)
  conv at ho => rhs; whnf
  subst ho
  refine ⟨?_, fun _ _ _ h => h, Or.inl ⟨by rfl, ?_⟩, ?_⟩
  rotate_left
  · intro w hSw
    first | (go_simp; done) | (go_simp; with_reducible rfl)
  try simp only [Act.put, List.setIfInBounds_toArray, List.set_cons_zero, List.set_cons_succ]
  refine wpAnyV_take0 (i := 5) (by kernel_rfl) (by kernel_rfl) (by kernel_rfl) (by kernel_rfl) (by kernel_rfl) trivial (fun o ho => ?_)
  conv at ho => rhs; whnf
  subst ho
  refine ⟨?_, fun _ _ _ h => h, Or.inl ⟨by rfl, ?_⟩, ?_⟩
  rotate_left
  · intro w hSw
    first | (go_simp; done) | (go_simp; with_reducible rfl)
  try simp only [Act.put, List.setIfInBounds_toArray, List.set_cons_zero, List.set_cons_succ]
  refine wpAnyV_take0 (i := 7) (by kernel_rfl) (by kernel_rfl) (by kernel_rfl) (by kernel_rfl) (by kernel_rfl) trivial (fun o ho => ?_)
  conv at ho => rhs; whnf
  subst ho
  refine ⟨?_, fun _ _ _ h => h, Or.inl ⟨by rfl, ?_⟩, ?_⟩
  rotate_left
  · intro w hSw
    first | (go_simp; done) | (go_simp; with_reducible rfl)
  try simp only [Act.put, List.setIfInBounds_toArray, List.set_cons_zero, List.set_cons_succ]
  refine wpAnyV_take0 (i := 8) (by kernel_rfl) (by kernel_rfl) (by kernel_rfl) (by kernel_rfl) (by kernel_rfl) trivial (fun o ho => ?_)
  conv at ho => rhs; whnf
  subst ho
  refine ⟨?_, fun _ _ _ h => h, Or.inl ⟨by rfl, ?_⟩, ?_⟩
  rotate_left
  · intro w hSw
    first | (go_simp; done) | (go_simp; with_reducible rfl)
  try simp only [Act.put, List.setIfInBounds_toArray, List.set_cons_zero, List.set_cons_succ]
  refine wpAnyV_take0 (i := 10) (by kernel_rfl) (by kernel_rfl) (by kernel_rfl) (by kernel_rfl) (by kernel_rfl) trivial (fun o ho => ?_)
  conv at ho => rhs; whnf
  subst ho
  refine ⟨?_, fun _ _ _ h => h, Or.inl ⟨by rfl, ?_⟩, ?_⟩
  rotate_left
  · intro w hSw
    first | (go_simp; done) | (go_simp; with_reducible rfl)
  try simp only [Act.put, List.setIfInBounds_toArray, List.set_cons_zero, List.set_cons_succ]
  refine wpAnyV_take0 (i := 11) (by kernel_rfl) (by kernel_rfl) (by kernel_rfl) (by kernel_rfl) (by kernel_rfl) trivial (fun o ho => ?_)
  conv at ho => rhs; whnf
  subst ho
  refine ⟨?_, fun _ _ _ h => h, Or.inl ⟨by rfl, ?_⟩, ?_⟩
  rotate_left
  · intro w hSw
    first | (go_simp; done) | (go_simp; with_reducible rfl)
  try simp only [Act.put, List.setIfInBounds_toArray, List.set_cons_zero, List.set_cons_succ]
  refine wpAnyV_one (i := 0) (by kernel_rfl) (by kernel_rfl) (fun o ho K hK => ?_)
  conv at ho => rhs; whnf
  subst ho
  go_simp
  refine hK.out _ _ (Or.inr trivial) ?_
  clear hK K
  try simp only [Act.put, List.setIfInBounds_toArray, List.set_cons_zero, List.set_cons_succ]
  refine wpAnyV_ins (ek := pairV .i64) (ev := (pairV .i64)) (om := .tmp 1) key_shape Tryd.underlying111 _ (fun _ => trivial) rfl 2 #[true, true, true, true, true, true, true, true, true, true, true, true, true, false, false] 4 [(3, ((2, 0), (0, 7))), (6, ((3, 0), (0, 7))), (9, ((3, 1), (0, 1000000))), (12, ((4, 0), (1, 1000)))] #[true, true, true, false, true, true, false, true, true, false, true, true, false, false, false] _ [] rfl (by decide) (by decide) ?_ (insOnly_of (by kernel_rfl)) (fun _ _ => rfl) rfl (insL_of rfl (by kernel_rfl) (by decide)) m0 (fun w2 m2 hp hM hx => ?_)
  · intro x hx
    simp only [List.mem_cons, List.not_mem_nil, or_false] at hx
    rcases hx with rfl | rfl | rfl | rfl
    all_goals
      refine ⟨rfl, _, _, _, rfl, rfl, rfl, rfl, rfl, rfl, after_ok ?_⟩
      kernel_rfl
  · refine wpAnyV_one (i := 13) (by kernel_rfl) (by kernel_rfl) (fun o ho K hK => ?_)
    conv at ho => rhs; whnf
    subst ho
    go_simp
    refine hK.out _ _ (Or.inr trivial) ?_
    clear hK K
    try simp only [Act.put, List.setIfInBounds_toArray, List.set_cons_zero, List.set_cons_succ]
    refine wpAnyV_one (i := 14) (by kernel_rfl) (by kernel_rfl) (fun o ho K hK => ?_)
    conv at ho => rhs; whnf
    subst ho
    go_simp
    refine hK.out _ _ (Or.inr trivial) ?_
    clear hK K
    try simp only [Act.put, List.setIfInBounds_toArray, List.set_cons_zero, List.set_cons_succ]
    refine wpAnyV_done (by kernel_rfl) ?_ _
    go_wp2_with fail
    go_ret
    exact ⟨w.heap.size, m2, rfl, hM, hp, ((Ext.refl NoB w).alloc (.map #[] 0)).drew.trans hx (fun q h1 h2 => by omega), Nat.le_refl _⟩

end Go.Proofs.YtgiimmiandhkhaaDoor
