/- The wheel: New, Now, Len, Due, forget. -/
import Derived.Test.YtnobodgjabgikaaProg
import Derived.Test.YtnobodgjabgikaaWhE
import Derived.StillTailTactics
namespace Go.Proofs.Ytnobodgjabgikaa
open Go.RowKit Go.Sort
set_option linter.unusedSimpArgs false
set_option linter.unusedVariables false

theorem key_int : KeyEnc Try.prog 3 (intV .i64) := _root_.Go.Proofs.Ytnobodgjabgikaa.int_key Try.underlying3
theorem key_spot : KeyEnc Try.prog 63 (pairV .i64) := pair_key (e := 3) Try.underlying63 Try.underlying3 (by kernel_rfl)
theorem zero_u64 (w : World) : (zeroValue 25).run Try.prog w = .ok (intV .u64 0) w := by kernel_rfl
theorem zero_spot (w : World) : (zeroValue 63).run Try.prog w = .ok (pairV .i64 (0, 0)) w := by kernel_rfl
def noSl : SlC := ⟨none, 0, 0, none, []⟩
theorem zero_tms (w : World) : (zeroValue 28).run Try.prog w = .ok (slV noSl) w := by kernel_rfl

theorem WhAt.keep {F : Nat → Prop} {w w' : World} {W : Wh} (h : WhAt w W) (x : Ext F w w') (hn : ∀ q, W.own q → ¬ F q) : WhAt w' W :=
  ⟨x.keep h.blk (hn _ (.inl rfl)), h.m1.keep x (hn _ (.inr (.inl rfl))), h.m2.keep x (hn _ (.inr (.inr (.inl rfl)))), h.m3.keep x (hn _ (.inr (.inr (.inr (.inl rfl))))), fun e he => (h.ok e he).keep x (fun b hb => hn b (.inr (.inr (.inr (.inr ⟨e, he, hb⟩))))), h.dj, h.nb, h.d12, h.d13, h.d23, h.small⟩
theorem WhAt.lt {w : World} {W : Wh} (h : WhAt w W) (q : Nat) (hq : W.own q) : q < w.heap.size := by
  rcases hq with rfl | rfl | rfl | rfl | ⟨e, he, hg⟩
  · exact lt_of_block h.blk
  · exact h.m1.lt
  · exact h.m2.lt
  · exact h.m3.lt
  · exact (h.ok e he).lt hg
theorem WhAt.c0 {w : World} {W : Wh} (h : WhAt w W) : w.cell? ⟨W.b, 0, none⟩ = some (.int .u64 W.now) := by rw [cell_of_row w W.b 0 _ _ (0, 0) h.blk]; rfl
theorem WhAt.c1 {w : World} {W : Wh} (h : WhAt w W) : w.cell? ⟨W.b, 1, none⟩ = some (.map (some W.r1)) := by rw [cell_of_row w W.b 1 _ _ (0, 0) h.blk]; rfl
theorem WhAt.c2 {w : World} {W : Wh} (h : WhAt w W) : w.cell? ⟨W.b, 2, none⟩ = some (.map (some W.r2)) := by rw [cell_of_row w W.b 2 _ _ (0, 0) h.blk]; rfl
theorem WhAt.c3 {w : World} {W : Wh} (h : WhAt w W) : w.cell? ⟨W.b, 3, none⟩ = some (.map (some W.r3)) := by rw [cell_of_row w W.b 3 _ _ (0, 0) h.blk]; rfl

set_option maxHeartbeats 1000000 in
theorem new_calls (now : Nat) (w : World) (hn : now < 18446744073709551616) : Calls Try.prog 9 #[.int .u64 now] w fun e w' =>
    ∃ W : Wh, e = .returned (.pointer (some ⟨W.b, 0, none⟩)) ∧ WhAt w' W ∧ W.now = now ∧ W.at' = [] ∧ W.due = [] ∧ W.sl = [] ∧ Ext NoB w w' ∧ ∀ q, W.own q → w.heap.size ≤ q := by
  have hmm := @run_makeMap Try.prog
  go_enter Try.func9, Try.ntmps9
  go_wp2
  go_ret
  refine ⟨⟨w.heap.size + 3, w.heap.size, w.heap.size + 1, w.heap.size + 2, now, [], [], []⟩, rfl, ⟨?_, ?_, ?_, ?_, by simp, by simp, by simp, by simp, by simp, by simp, hn⟩, rfl, rfl, rfl, rfl, ((((Ext.refl _ _).alloc _).alloc _).alloc _).alloc _, ?_⟩
  · have := alloc_at (((w.alloc (.map #[] 0)).alloc (.map #[] 0)).alloc (.map #[] 0)) (.cells #[.int .u64 now, .map (some w.heap.size), .map (some (w.heap.size + 1)), .map (some (w.heap.size + 2))] 59)
    simpa using this
  · exact (((MapAt.made w).keep ((Ext.refl NoB _).alloc _) nb).keep ((Ext.refl NoB _).alloc _) nb).keep ((Ext.refl NoB _).alloc _) nb
  · have := MapAt.made (ek := intV .i64) (ev := intV .u64) (w.alloc (.map #[] 0))
    simp only [World.size_alloc] at this
    exact (this.keep ((Ext.refl NoB _).alloc _) nb).keep ((Ext.refl NoB _).alloc _) nb
  · have := MapAt.made (ek := pairV .i64) (ev := slV) ((w.alloc (.map #[] 0)).alloc (.map #[] 0))
    simp only [World.size_alloc] at this
    exact this.keep ((Ext.refl NoB _).alloc _) nb
  · rintro q (rfl | rfl | rfl | rfl | ⟨e, he, _⟩)
    · show _ ≤ w.heap.size + 3; omega
    · show _ ≤ w.heap.size; omega
    · show _ ≤ w.heap.size + 1; omega
    · show _ ≤ w.heap.size + 2; omega
    · cases he

theorem now_calls (W : Wh) (w : World) (h : WhAt w W) : Calls Try.prog 13 #[.pointer (some ⟨W.b, 0, none⟩)] w fun e w' => e = .returned (.int .u64 W.now) ∧ w = w' := by
  have c0 := h.c0
  go_enter Try.func13, Try.ntmps13
  go_wp2
  go_ret
  exact ⟨rfl, rfl⟩

theorem len_calls (W : Wh) (w : World) (h : WhAt w W) : Calls Try.prog 12 #[.pointer (some ⟨W.b, 0, none⟩)] w fun e w' => e = .returned (.int .i64 W.due.length) ∧ w = w' := by
  have c1 := h.c2
  have hl := h.m2.run_len (P := Try.prog) Try.underlying56 #[56] rfl 3
  go_enter Try.func12, Try.ntmps12
  go_wp2
  go_ret
  exact ⟨rfl, rfl⟩

def DuePost (W : Wh) (id : Int) (w : World) (e : Ending) (w' : World) : Prop := e = .returned (.tuple #[.int .u64 ((mget W.due id).getD 0), .bool (mget W.due id).isSome]) ∧ Ext NoB w w'

set_option maxHeartbeats 1000000 in
theorem due_calls (W : Wh) (id : Int) (w : World) (h : WhAt w W) : Calls Try.prog 15 #[.pointer (some ⟨W.b, 0, none⟩), .int .i64 id] w (DuePost W id w) := by
  have c1 := h.c2
  have hl : ∀ n, (Instr.lookup 56 (.map (some W.r2)) (.int .i64 id) true).run Try.prog (w.drewN n) = .ok (.tuple #[.int .u64 ((mget W.due id).getD 0), .bool (mget W.due id).isSome]) (w.drewN n) := fun n =>
    (h.m2.of_block (w' := w.drewN n) rfl).run_lookup key_int Try.underlying56 (z := 0) zero_u64 id true
  have hl0 := hl 0
  unfold DuePost
  generalize (mget W.due id).getD 0 = d at *
  generalize (mget W.due id).isSome = o at *
  have hl0' : (Instr.lookup 56 (.map (some W.r2)) (.int .i64 id) true).run Try.prog w = .ok (.tuple #[.int .u64 d, .bool o]) w := hl0
  clear hl0
  go_enter Try.func15, Try.ntmps15
  go_wp2_with fail
  go_ret2
  exact ⟨rfl, Ext.refl _ _⟩

set_option maxRecDepth 10000 in
set_option maxHeartbeats 1000000 in
theorem forget_calls (W : Wh) (id : Int) (w : World) (h : WhAt w W) : Calls Try.prog 26 #[.pointer (some ⟨W.b, 0, none⟩), .int .i64 id] w fun e w' => e = .returned (.tuple #[]) ∧ WhAt w' { W with at' := mdel W.at' id, due := mdel W.due id } ∧ Ext W.own w w' := by
  have c1 := h.c2
  have c2 := h.c1
  have n1 : W.b ≠ W.r1 := h.m1.ne_cell h.c1
  have n2 : W.b ≠ W.r2 := h.m2.ne_cell h.c1
  have hm3 := h.m3
  have n1' := Lib.hid n1
  have n2' := Lib.hid n2
  have n12 := Lib.hid h.d12
  clear n1 n2
  go_enter Try.func26, Try.ntmps26
  go_wp2_with (first
    | (at_delete; refine wpList_mapDel (ek := intV .i64) (ev := pairV .i64) rfl rfl rfl key_int Try.underlying55 q1 rfl id rfl (fun w2 hm2 hx2 => ?_))
    | (at_delete; refine wpList_mapDel (ek := intV .i64) (ev := intV .u64) rfl rfl rfl key_int Try.underlying56 h.m2 rfl id rfl (fun w1 hm1 hx1 => ?_); have e2 := hx1.cell c2 n2'.out; have q1 := h.m1.keep hx1 n12.out))
  go_end0
  have x1 : Ext W.own w w1 := hx1.mono (fun q _ e => .inr (.inr (.inl e)))
  have x2 : Ext W.own w1 w2 := hx2.mono (fun q _ e => .inr (.inl e))
  have hr : ∀ (F : Nat → Prop) (q : Nat), ¬ q = W.r1 → ¬ q = W.r2 → True := fun _ _ _ _ => trivial
  refine ⟨rfl, ⟨hx2.keep (hx1.keep h.blk n2'.out) n1'.out, hm2, hm1.keep hx2 (Ne.symm n12.out), (h.m3.keep hx1 (Ne.symm h.d23)).keep hx2 (Ne.symm h.d13), fun e he => ?_, h.dj, h.nb, h.d12, h.d13, h.d23, h.small⟩, x1.trans x2 (fun _ _ h => h)⟩
  have hok := h.ok e he
  rcases hok with ⟨v1, v2, v3⟩ | ⟨b, o, c, cur, hg, hv, hh, rest⟩
  · exact .inl ⟨v1, v2, v3⟩
  · have hb1 : b ≠ W.r1 := fun e => by
      obtain ⟨es, cl, hb, _⟩ := h.m1
      rw [e, hb] at hh; cases hh
    have hb2 : b ≠ W.r2 := fun e => by
      obtain ⟨es, cl, hb, _⟩ := h.m2
      rw [e, hb] at hh; cases hh
    exact .inr ⟨b, o, c, cur, hg, hv, hx2.keep (hx1.keep hh hb2) hb1, rest⟩

end Go.Proofs.Ytnobodgjabgikaa
