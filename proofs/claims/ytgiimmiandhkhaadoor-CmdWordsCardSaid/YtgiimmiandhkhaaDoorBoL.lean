/- The bodies: a range over strings.SplitSeq's iterator. -/
import Derived.Test.YtgiimmiandhkhaaDoorProg
import Derived.Test.YtgiimmiandhkhaaDoorBoG
import Derived.RangeFuncIn
namespace Go.Proofs.YtgiimmiandhkhaaDoor
open Go.RowKit
set_option linter.unusedSimpArgs false
set_option linter.unusedVariables false

theorem ext_put (w : World) (l : Nat) (o : Obj) : Ext (· = l) w (w.putObj l o) := ⟨rfl, rfl, rfl, by simp, fun k _ hk => World.putObj_heap_other hk⟩
theorem ext_wk {F G : Nat → Prop} {w w' : World} (x : Ext F w w') (h : ∀ i, F i → G i) : Ext G w w' := ⟨x.os, x.tape, x.output, x.size, fun k hk hn => x.block k hk (fun e => hn (h k e))⟩
/-- The loop's record. -/
def lpR (fn : FuncId) (a : Act) (p : Tmp) (assign body : Code) (D : Nat) (st : LoopState) (pe : Option Code) : Loop := { state := st, pending := pe, fn := fn, tmps := a.tmps, params := #[p], assign := assign, body := body, defers := D }
def rndPost (b1 b2 b3 D : Nat) (J : World → Prop) (Jx : World → Prop) (W : World) : Exit → Act → World → Prop
  | .normal, _, W' => Ext (fun i => i ≠ b1 ∧ i ≠ b2 ∧ i ≠ b3 ∧ i ≠ D ∧ i ≠ D + 1) W W' ∧ J W'
  | .ret, _, W' => Ext (fun i => i ≠ b1 ∧ i ≠ b2 ∧ i ≠ b3 ∧ i ≠ D ∧ i ≠ D + 1) W W' ∧ Jx W'
  | .exit _, _, _ => False
  | .goto _, _, _ => False
  | .panic _, _, _ => False
  | .outgrown, _, _ => False

set_option maxHeartbeats 1000000 in
theorem rf_split {g : Operand} {assign body : Code} {Q : Exit → Act → World → Prop} {a : Act} {w : World} (n : Nat) (p : Tmp) (b1 b2 b3 : Nat) (h12 : b1 ≠ b2) (h32 : b3 ≠ b2) (hb1 : b1 < w.heap.size) (hb2 : b2 < w.heap.size) (hb3 : b3 < w.heap.size)
    (hg : a.eval g = .func (.func 78) #[] #[.pointer (some ⟨b1, 0, none⟩), .pointer (some ⟨b2, 0, none⟩), .pointer (some ⟨b3, 0, none⟩)])
    (s : ByteArray) (hs : s.size ≤ 1000000) (L : List (List UInt8)) (hL : spl 59 s.data.toList = L) (hc1 : w.cell? ⟨b1, 0, none⟩ = some (.string ⟨#[59]⟩)) (hc2 : w.cell? ⟨b2, 0, none⟩ = some (.string s)) (hf2 : w.frozen? ⟨b2, 0, none⟩ = false) (hc3 : w.cell? ⟨b3, 0, none⟩ = some (.int .i64 0))
    (I : List ByteArray → World → Prop) (Ix : World → Prop)
    (hI : ∀ pre W W', I pre W → Ext (fun i => i = b2 ∨ i = w.heap.size ∨ i = w.heap.size + 1) W W' → I pre W')
    (hIx : ∀ W W', Ix W → Ext (fun i => i = b2 ∨ i = w.heap.size ∨ i = w.heap.size + 1) W W' → Ix W') (h0 : I [] w) (a₁ : ByteArray → Act)
    (hassign : ∀ (l : Nat) (x : ByteArray) (W : World) (K : Act → World → Prop), K (a₁ x) W → assign.wpIn (Fence.wide.inRound l) (n - 1 - 1) Tryd.prog (Exit.then K (fun _ _ _ => False)) { tmps := a.tmps.setIfInBounds p (.string x), defers := [] } W)
    (hbody : ∀ (l : Nat) (pre : List ByteArray) (x : ByteArray) (tl : List (List UInt8)) (W : World), I pre W → w.heap.size + 2 ≤ W.heap.size → pre.map (fun y => y.data.toList) ++ x.data.toList :: tl = L →
      body.wpIn (Fence.wide.inRound l) (n - 1 - 1) Tryd.prog (rndPost b1 b2 b3 w.heap.size (I (pre ++ [x])) Ix W) (a₁ x) W)
    (hdone : ∀ (W : World) (ys : List ByteArray), ys.map (fun y => y.data.toList) = L → I ys W → W.heap[w.heap.size]? = some (.deferred (some [])) → Q .normal { a with defers := { target := .collected w.heap.size, args := #[] } :: a.defers } W)
    (hstop : ∀ (W : World), Ix W → W.heap[w.heap.size]? = some (.deferred (some [])) → Q .ret { a with defers := { target := .collected w.heap.size, args := #[] } :: a.defers } W) :
    (Code.rangeFunc g #[p] assign body).wpIn Fence.wide n Tryd.prog Q a w := by
  refine wpIn_rangeFunc (fun fn _ => ?_)
  obtain ⟨D, hD⟩ : ∃ D, w.heap.size = D := ⟨_, rfl⟩
  rw [hD] at hb1 hb2 hb3 hI hIx hbody hdone hstop
  obtain ⟨W1, hW1⟩ : ∃ W1, (w.alloc (.deferred (some []))).alloc (.loop (lpR fn a p assign body D .ready none)) = W1 := ⟨_, rfl⟩
  have x1 : Ext NoB w W1 := by rw [← hW1]; exact ((Ext.refl NoB w).alloc _).alloc _
  have r1 : W1.heap[D + 1]? = some (.loop (lpR fn a p assign body D .ready none)) := by
    rw [← hW1, ← hD]; exact alloc_at' _ _ _ (by simp)
  have k1 : W1.heap[D]? = some (.deferred (some [])) := by
    rw [← hW1, ← hD]; exact ((Ext.refl NoB _).alloc _).keep (alloc_at w _) nb
  refine ⟨D + 1, [{ target := .collected D, args := #[] }], W1, { target := .fn (.func 78) #[.pointer (some ⟨b1, 0, none⟩), .pointer (some ⟨b2, 0, none⟩), .pointer (some ⟨b3, 0, none⟩)], args := #[.func (.yield (D + 1)) #[] #[]] }, W1, 78, #[.func (.yield (D + 1)) #[] #[], .pointer (some ⟨b1, 0, none⟩), .pointer (some ⟨b2, 0, none⟩), .pointer (some ⟨b3, 0, none⟩)], W1, ?_, ?_, fun _ _ => trivial, ?_, (fun h => by cases h), ?_⟩
  · rw [← hW1, ← hD]; exact run_enterLoop_outer fn a.tmps #[p] assign body
  · simp only [resolve, hg]; simp [go_sem]
  · simp [invoke, go_sem, enters_of Tryd.func78 (by kernel_rfl) rfl]
  refine (split_iter (n - 1) (D + 1) b1 b2 b3 h12 h32 L
    (fun pre W => I pre W ∧ W.heap[D + 1]? = some (.loop (lpR fn a p assign body D .ready none)) ∧ W.heap[D]? = some (.deferred (some [])))
    (fun _ W => Ix W ∧ W.heap[D + 1]? = some (.loop (lpR fn a p assign body D .done (some .ret))) ∧ W.heap[D]? = some (.deferred (some [])))
    (fun pre W W' h x => ⟨hI pre W W' h.1 (ext_wk x (fun _ e => .inl e)), x.keep h.2.1 (by omega), x.keep h.2.2 (by omega)⟩)
    ?_ s hs hL W1 (x1.cell hc1 nb) (x1.cell hc2 nb) ((World.frozen?_of_block (x1.block b2 (by omega) nb)).trans hf2) (x1.cell hc3 nb) ⟨hI [] w W1 h0 (ext_wk x1 (fun _ e => e.elim)), r1, k1⟩).mono ?_
  · rintro pre x tl W ⟨hi, hr, hk⟩ hl
    have hlt := lt_of_block hr
    have hy : (Instr.yield (D + 1) #[.string x]).run Tryd.prog W = .ok (.round (D + 1) fn (a.tmps.setIfInBounds p (.string x)) assign body) W := by
      have h1 := run_yield (P := Tryd.prog) (args := #[.string x]) hr rfl
      rw [h1]
      simp [lpR]
    refine ⟨fn, _, assign, body, hy, roundIn_of_wpIn trivial (hassign (D + 1) x W _ (Exists.intro _ (And.intro (run_beginRound hr rfl) ?_)))⟩
    have e2 := ext_put W (D + 1) (.loop { lpR fn a p assign body D .ready none with state := .busy })
    have r2 : (W.putObj (D + 1) (.loop { lpR fn a p assign body D .ready none with state := .busy })).heap[D + 1]? = some (.loop { lpR fn a p assign body D .ready none with state := .busy }) := World.putObj_heap_same hlt
    have k2 := e2.keep hk (by omega)
    have i2 := hI pre W _ hi (ext_wk e2 (fun _ e => .inr (.inr e)))
    generalize W.putObj (D + 1) (.loop { lpR fn a p assign body D .ready none with state := .busy }) = W2 at *
    refine wpIn_mono (hbody _ pre x tl W2 i2 (by have := e2.size; omega) hl) ?_
    rintro e a3 W3 hp
    cases e with
    | normal =>
      obtain ⟨x3, i3⟩ := hp
      have r3 := x3.keep r2 (by omega)
      have k3 := x3.keep k2 (by omega)
      have e4 := ext_put W3 (D + 1) (.loop (lpR fn a p assign body D .ready none))
      refine ⟨_, _, run_endRound none r3, .inl ⟨rfl, ⟨hI _ _ _ i3 (ext_wk e4 (fun _ e => .inr (.inr e))), World.putObj_heap_same (lt_of_block r3), e4.keep k3 (by omega)⟩, ?_⟩⟩
      refine ((ext_wk (G := fun i => i ≠ b1 ∧ i ≠ b2 ∧ i ≠ b3) e2 (fun _ e => by omega)).trans x3 (fun i _ h => ⟨h.1, h.2.1, h.2.2.1⟩)).trans e4 (fun i _ h => by omega)
    | ret =>
      obtain ⟨x3, i3⟩ := hp
      have r3 := x3.keep r2 (by omega)
      have k3 := x3.keep k2 (by omega)
      have e4 := ext_put W3 (D + 1) (.loop (lpR fn a p assign body D .done (some .ret)))
      exact ⟨_, _, run_endRound (some .ret) r3, .inr ⟨rfl, hIx _ _ i3 (ext_wk e4 (fun _ e => .inr (.inr e))), World.putObj_heap_same (lt_of_block r3), e4.keep k3 (by omega)⟩⟩
    | exit id => exact hp.elim
    | goto t => exact hp.elim
    | panic ch => exact hp.elim
    | outgrown => exact hp.elim
  · rintro e W2 ⟨⟨v, rfl⟩, (⟨ys, hys, hi, hr, hk⟩ | ⟨_, hi, hr, hk⟩)⟩
    · have e4 := ext_put W2 (D + 1) (.loop { lpR fn a p assign body D .ready none with state := .exhausted })
      refine ⟨none, _, run_endLoop hr (by simp [lpR]), hdone _ ys hys (hI _ _ _ hi (ext_wk e4 (fun _ e => .inr (.inr e)))) (e4.keep hk (by omega))⟩
    · have e4 := ext_put W2 (D + 1) (.loop { lpR fn a p assign body D .done (some .ret) with state := .exhausted })
      refine ⟨some .ret, _, run_endLoop hr (by simp [lpR]), wpIn_ret (hstop _ (hIx _ _ hi (ext_wk e4 (fun _ e => .inr (.inr e)))) (e4.keep hk (by omega)))⟩
end Go.Proofs.YtgiimmiandhkhaaDoor
