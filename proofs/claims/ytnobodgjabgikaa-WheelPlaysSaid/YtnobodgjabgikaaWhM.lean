/- The wheel: Advance. -/
import Derived.Test.YtnobodgjabgikaaProg
import Derived.Test.YtnobodgjabgikaaWhL
namespace Go.Proofs.Ytnobodgjabgikaa
open Go.RowKit Go.Sort
set_option linter.unusedSimpArgs false
set_option linter.unusedVariables false

theorem pass_calls (lv D : Nat) (hD : (lv = 0 ∧ D = 1) ∨ (lv = 1 ∧ D = 64) ∨ (lv = 2 ∧ D = 4096) ∨ (lv = 3 ∧ D = 262144)) (W : Wh) (to : Nat) (w : World) (h : WhAt w W) (hto : to < 18446744073709551616) (hL : ∀ e ∈ W.sl, e.2.xs.length ≤ 1000) :
    Calls Try.prog 24 #[.pointer (some ⟨W.b, 0, none⟩), .int .i64 (lv : Int), .int .u64 to] w (PassPost W (lv : Int) D to w) := by
  rcases hD with ⟨rfl, rfl⟩ | ⟨rfl, rfl⟩ | ⟨rfl, rfl⟩ | ⟨rfl, rfl⟩
  · exact pass_calls0 W to w h hto hL
  · exact pass_calls1 W to w h hto hL
  · exact pass_calls2 W to w h hto hL
  · exact pass_calls3 W to w h hto hL

theorem four_setCell {w : World} {b : Nat} {v0 v1 v2 v3 u : Value} {t : TypeId} (h : w.heap[b]? = some (.cells #[v0, v1, v2, v3] t (0, 0))) : (w.setCell ⟨b, 0, none⟩ u).heap[b]? = some (.cells #[u, v1, v2, v3] t (0, 0)) := by
  have hlt := lt_of_block h
  have h' : w.heap[b] = .cells #[v0, v1, v2, v3] t (0, 0) := by simpa [Array.getElem?_eq_getElem hlt] using h
  show (w.heap.modify b _)[b]? = _
  rw [Array.getElem?_eq_getElem (by simpa using hlt), Array.getElem_modify_self, h']
  rfl
theorem two_alloc (w : World) (x y : Value) (E : TypeId) (o : Obj) : ((w.alloc (.cells #[x, y] E)).alloc o).cell? ⟨w.heap.size, 1, none⟩ = some y := by
  have h1 : (w.alloc (.cells #[x, y] E)).heap[w.heap.size]? = some (.cells #[x, y] E (0, 0)) := alloc_at w _
  have h2 := ((Ext.refl NoB (w.alloc (.cells #[x, y] E))).alloc o).keep h1 nb
  rw [cell_of_row _ w.heap.size 1 _ _ (0, 0) h2]; rfl
theorem frz0 {w : World} {b off : Nat} {cs : Array Value} {E : TypeId} (h : w.heap[b]? = some (.cells cs E (0, 0))) : w.frozen? ⟨b, off, none⟩ = false := by simp [World.frozen?, h]
theorem WhAt.with_now {w : World} {W : Wh} (h : WhAt w W) (T : Nat) (hT : T < 18446744073709551616) : WhAt (w.setCell ⟨W.b, 0, none⟩ (.int .u64 T)) { W with now := T } ∧ Ext (fun q => q = W.b) w (w.setCell ⟨W.b, 0, none⟩ (.int .u64 T)) := by
  have hx : Ext (fun q => q = W.b) w (w.setCell ⟨W.b, 0, none⟩ (.int .u64 T)) := (Ext.refl (fun q => q = W.b) w).setCell (fun _ => rfl) _
  exact ⟨⟨four_setCell h.blk, h.m1.keep hx (Ne.symm (ne_mapB h.m1 h.blk)), h.m2.keep hx (Ne.symm (ne_mapB h.m2 h.blk)), h.m3.keep hx (Ne.symm (ne_mapB h.m3 h.blk)), fun e he => (h.ok e he).keep hx (fun q hq e1 => h.nb e he (by rw [hq, e1])), h.dj, h.nb, h.d12, h.d13, h.d23, hT⟩, hx⟩

/-- One more that is told: the due list. -/
theorem due_step {D : List (Int × Int)} {ms : List Tm} {k : Nat} {ud ui T : Int} (hnd : (D.map (·.1)).Nodup) (ht : ms.take (k + 1) = ms.take k ++ [(ud, ui)]) (hu : ud ≤ T) (hm : (ui, ud) ∈ D) :
    mdel (D.filter (fun e => decide (¬ ((e.2, e.1) ∈ ms.take k ∧ e.2 ≤ T)))) ui = D.filter (fun e => decide (¬ ((e.2, e.1) ∈ ms.take (k + 1) ∧ e.2 ≤ T))) := by
  unfold mdel
  rw [List.filter_filter]
  refine List.filter_congr (fun e he => ?_)
  have hone : e.1 = ui → e.2 = ud := fun h => by
    have h1 := mget_of_mem hnd (show (ui, e.2) ∈ D by rw [← h]; exact he)
    have h2 := mget_of_mem hnd hm
    rw [h1] at h2; exact Option.some.inj h2
  rw [ht]
  by_cases h : e.1 = ui
  · have := hone h
    simp [h, this, hu]
  · simp [h]

structure AdvTo (W : Wh) (to : Nat) (W' : Wh) : Prop where
  b : W'.b = W.b
  now : W'.now = to
  due : W'.due = W.due.filter (fun e => decide ((to : Int) < e.2))
  inv : Inv W' []
/-- What is told. -/
structure Told (W : Wh) (to : Nat) (xs : List Tm) : Prop where
  srt : xs.Pairwise tlt
  mem : ∀ t, t ∈ xs ↔ mget W.due t.2 = some t.1 ∧ t.1 ≤ (to : Int)
def AdvPost (W : Wh) (to : Nat) (w : World) (e : Ending) (w' : World) : Prop :=
  ∃ (v : Value) (g : Option Nat) (xs : List Tm) (W' : Wh), e = .returned v ∧ SlO w' 33 2 timerE g v xs ∧ Told W to xs ∧ AdvTo W to W' ∧ WhAt w' W' ∧ Ext W.own w w' ∧ (∀ q, W'.own q → W.own q ∨ w.heap.size ≤ q) ∧ (∀ q, g = some q → w.heap.size ≤ q ∧ ¬ W'.own q)

theorem all_told {W : Wh} {M : List Tm} {T : Nat} (h : Inv W M) (hn : W.now = T) (h0 : slotOf W.sl (-1, 0) = []) {t : Tm} (ht : mget W.due t.2 = some t.1) (hle : t.1 ≤ (T : Int)) : t ∈ M := by
  refine Classical.byContradiction fun hc => ?_
  have hb := h.bnd ht
  have h1 : t ∈ slotOf W.sl (whereS W.now t.1.toNat) := (h.mem _ t).2 ⟨ht, hc, rfl⟩
  have hw : whereS W.now t.1.toNat = (-1, 0) := by unfold whereS; rw [if_pos (by omega)]
  rw [hw, h0] at h1
  cases h1
theorem told_of {W W5 : Wh} {ms : List Tm} {T : Nat} (h : Inv W5 ms) (hd : W5.due = W.due) (hn : W5.now = T) (h0 : slotOf W5.sl (-1, 0) = []) (hnd : ms.Nodup) : Told W T (sortT (ms.filter (fun t => decide (t.1 ≤ (T : Int))))) :=
  ⟨sortT_sorted (hnd.sublist List.filter_sublist), fun t => by
    rw [(sortT_perm _).mem_iff, List.mem_filter, decide_eq_true_iff]
    exact ⟨fun ⟨a, b⟩ => ⟨by rw [← hd]; exact h.fly t a, b⟩, fun ⟨a, b⟩ => ⟨all_told h hn h0 (by rw [hd]; exact a) b, b⟩⟩⟩
theorem left_of {W W5 : Wh} {ms : List Tm} {T : Nat} (h : Inv W5 ms) (hd : W5.due = W.due) (hn : W5.now = T) (h0 : slotOf W5.sl (-1, 0) = []) :
    W.due.filter (fun e => decide (¬ ((e.2, e.1) ∈ ms ∧ e.2 ≤ (T : Int)))) = W.due.filter (fun e => decide ((T : Int) < e.2)) := by
  refine List.filter_congr (fun e he => ?_)
  by_cases hle : e.2 ≤ (T : Int)
  · have h1 : ((e.2, e.1) : Tm) ∈ ms := all_told h hn h0 (t := (e.2, e.1)) (mget_of_mem h.nd (by rw [hd]; exact he)) hle
    have h2 : ¬ (T : Int) < e.2 := by omega
    simp [h1, hle, h2]
  · have h2 : (T : Int) < e.2 := by omega
    simp [h2]
theorem late_pass {sl : List (Spt × SlC)} {lv : Int} {f0 : Nat} {s : Spt} (h : slotOf sl s = []) (k : Nat) : slotOf (passL sl lv f0 k) s = [] :=
  List.eq_nil_iff_forall_not_mem.2 fun t ht => by
    have := (pass_sub k ht).1
    rw [h] at this; cases this

set_option maxRecDepth 100000 in
set_option maxHeartbeats 4000000 in
theorem advance_calls (W : Wh) (to : Nat) (w : World) (h : WhAt w W) (hto : to < 18446744073709551616) (hI : Inv W []) :
    Calls Try.prog 11 #[.pointer (some ⟨W.b, 0, none⟩), .int .u64 to] w (AdvPost W (max to W.now) w) := by
  have c0 := h.c0
  have hsm := h.small
  have hL : ∀ e ∈ W.sl, e.2.xs.length ≤ 1000 := fun e he => by
    have := hI.len e.1
    unfold slotOf at this
    rw [mget_of_mem h.m3.nodup he] at this
    exact this
  have c3 := h.c3
  have hgv : (mget W.sl (-1, 0)).getD noSl = W.get (-1, 0) := rfl
  have hn4 := h.get_n (-1, 0)
  have hO4 := h.get_ok (-1, 0)
  have hlen4 : ((W.get (-1, 0)).xs).length ≤ 1000 := hI.len (-1, 0)
  have hsl4 : slotOf W.sl (-1, 0) = (W.get (-1, 0)).xs := rfl
  generalize hE : W.get (-1, 0) = E at *
  have hgv' := Lib.hid hgv
  clear hgv hE
  obtain ⟨ea, en, ec, eg, exs⟩ := E
  dsimp only at hn4 hO4 hlen4 hsl4
  obtain rfl : en = exs.length := hn4
  simp only [slV] at hO4
  obtain ⟨A4, c4, b4, o4, e4, hr4, hgr4⟩ := hO4.read
  simp only [Value.slice.injEq, true_and] at e4
  obtain ⟨rfl, rfl⟩ := e4
  have hcan := hO4.can
  have hl1 : (Instr.lookup 57 (.map (some W.r3)) (.agg #[.int .i64 (-1), .int .i64 0]) false).run Try.prog w = .ok (.slice ea exs.length ec) w := by
    have := h.m3.run_lookup key_spot Try.underlying57 (z := noSl) zero_tms (-1, 0) false
    simp only [Bool.false_eq_true, if_false, hgv'.out] at this
    exact this
  obtain ⟨T, hT⟩ : ∃ T, max to W.now = T := ⟨_, rfl⟩
  have hTi : max (to : Int) (W.now : Int) = (T : Int) := by omega
  have hTs : T < 18446744073709551616 := by omega
  have hTn : W.now ≤ T := by omega
  rw [hT]
  have hP0 := Lib.hid (part_take hI (part_start hI) (-1, 0))
  have hL0 := Lib.hid (lft_late hI T)
  go_enter Try.func11, Try.ntmps11
  go_wp2_with fail
  refine (clone_calls ea ec b4 o4 exs w hr4 hcan (by omega)).mono ?_
  rintro e w7 ⟨v7, g7, rfl, hO7, hg7, hx7⟩
  have d3 := hx7.cell c3 nb
  have h7 := h.keep hx7 (fun _ _ => nb)
  go_wp2_with (at_delete; refine wpList_mapDel (ek := pairV .i64) (ev := slV) rfl rfl rfl key_spot Try.underlying57 h7.m3 rfl (-1, 0) rfl (fun w8 hm8 hx8 => ?_))
  have h8 := h7.del_sl hm8 hx8
  have hr3 : W.r3 < w.heap.size := h.lt _ (.inr (.inr (.inr (.inl rfl))))
  have hO8 := hO7.keep hx8 (fun q e1 e2 => by have := hg7 q e1; omega)
  have hx08 : Ext W.own w w8 := (hx7.mono (fun _ _ e => e.elim)).trans hx8 (fun q hq e1 => by subst e1; exact .inr (.inr (.inr (.inl rfl))))
  have hown0 := Lib.hid (show ∀ q, W.own q → q < w.heap.size from h.lt)
  rw [hsl4] at hP0
  have hsub0 := Lib.hid (show ∀ e ∈ mdel W.sl (-1, 0), e ∈ W.sl from fun e he => mem_mdel he)
  have hlt0 := Lib.hid (show slotOf (mdel W.sl (-1, 0)) (-1, 0) = [] by rw [slotOf_mdel, if_pos rfl])
  have hI' := Lib.hid hI
  have hL' := Lib.hid hL
  clear c0 c3 hgv' hsl4 hO4 hr4 hgr4 hcan hl1 hT hTi hx7 hO7 h7 d3 hm8 hx8 hI h hL
  go_wp2_with fail
  go_loopw [5, 28] (fun mvv n wr => ∃ (k : Nat) (sl : List (Spt × SlC)) (mv : List Tm) (g : Option Nat), k ≤ 4 ∧ n = .int .i64 k ∧ WhAt wr { W with sl := sl } ∧ Hid (Part W sl mv) ∧ Hid (Lft T (k : Int) sl) ∧ Hid (slotOf sl (-1, 0) = []) ∧ Hid (∀ e ∈ sl, e ∈ W.sl) ∧ mv.length ≤ 1000 + 64000 * k ∧ SlO wr 33 2 timerE g mvv mv ∧ Ext W.own w wr ∧ (∀ q, g = some q → w.heap.size ≤ q)) (fun _ n _ => 4 - (intOf n).toNat)
  case atStart => exact ⟨0, mdel W.sl (-1, 0), exs, g7, by omega, rfl, h8, hP0, hL0, hlt0, hsub0, by omega, hO8, hx08, hg7⟩
  case round =>
    obtain ⟨k, sl, mv, g, hk, rfl, hW, hP, hLf, hlate, hsub, hml, hO, hext, hg⟩ := hrel
    clear h8 hO8 hx08
    have hown : ∀ q, Wh.own { W with sl := sl } q → q < w.heap.size := fun q hq => hown0.out q (by
      rcases hq with h | h | h | h | ⟨e, he, h⟩
      · exact .inl h
      · exact .inr (.inl h)
      · exact .inr (.inr (.inl h))
      · exact .inr (.inr (.inr (.inl h)))
      · exact .inr (.inr (.inr (.inr ⟨e, hsub.out e he, h⟩))))
    have hownW : ∀ q, Wh.own { W with sl := sl } q → W.own q := fun q hq => by
      rcases hq with h | h | h | h | ⟨e, he, h⟩
      · exact .inl h
      · exact .inr (.inl h)
      · exact .inr (.inr (.inl h))
      · exact .inr (.inr (.inr (.inl h)))
      · exact .inr (.inr (.inr (.inr ⟨e, hsub.out e he, h⟩)))
    have hsz := hext.size
    by_cases hlt : k < 4
    · have t0 : decide ((k : Int) < 4) = true := by simp; omega
      obtain ⟨D, hD⟩ : ∃ D, (k = 0 ∧ D = 1) ∨ (k = 1 ∧ D = 64) ∨ (k = 2 ∧ D = 4096) ∨ (k = 3 ∧ D = 262144) := by
        have : k = 0 ∨ k = 1 ∨ k = 2 ∨ k = 3 := by omega
        rcases this with rfl | rfl | rfl | rfl
        · exact ⟨1, by omega⟩
        · exact ⟨64, by omega⟩
        · exact ⟨4096, by omega⟩
        · exact ⟨262144, by omega⟩
      have hD' := Lib.hid hD
      have hDi := Lib.hid (show ((k : Int) = 0 ∧ D = 1) ∨ ((k : Int) = 1 ∧ D = 64) ∨ ((k : Int) = 2 ∧ D = 4096) ∨ ((k : Int) = 3 ∧ D = 262144) by omega)
      clear hD
      go_wp2_with fail
      refine (pass_calls k D hD'.out { W with sl := sl } T wr hW hTs (fun e he => hL'.out e (hsub.out e he))).mono ?_
      rintro e w2 ⟨kk, v2, g2, rfl, hk64, hst, hO2, hW2, hx2, hg2⟩
      have hst' := Lib.hid hst
      clear hst
      have hlen2 := passO_len (lv := (k : Int)) (f0 := W.now / D + 1) (fun e he => hL'.out e (hsub.out e he)) kk
      have hO' := hO.keep hx2 (fun q e1 e2 => by have := hg q e1; have := hown q e2; omega)
      obtain ⟨A2, c2, b2, o2, rfl, hr2, hgr2⟩ := hO2.read
      dsimp only at hO2 hr2 hlen2 hst'
      have hb1 : (mv.length + (passO sl (k : Int) (W.now / D + 1) kk).length) * 16 ≤ 140737488355328 := by omega
      have hb2 : mv.length + (passO sl (k : Int) (W.now / D + 1) kk).length ≤ maxLen := by unfold maxLen; omega
      go_wp2_with (at_builtin; go_loud (refine wpList_appendO rfl rfl elem_tm timerE_len timerE_one hO' rfl hr2 rfl rfl hb1 hb2 (fun v3 w3 g3 hO3 hx3 hg3 => ?_)))
      have hsz2 := hx2.size
      refine ⟨⟨k + 1, passL sl (k : Int) (W.now / D + 1) kk, mv ++ passO sl (k : Int) (W.now / D + 1) kk, g3, by omega, by go_num, ?_, Lib.hid (part_pass hI'.out hP.out _ _ kk), Lib.hid ?_, Lib.hid (late_pass hlate.out kk), Lib.hid (fun e he => hsub.out e (passL_sub kk he)), ?_, hO3, ?_, fun q e1 => ?_⟩, by simp [intOf]; omega⟩
      · refine hW2.keep hx3 (fun q hq e1 => ?_)
        have h1 := hg q e1
        have h2 := hown0.out q (by
          rcases hq with h | h | h | h | ⟨e, he, h⟩
          · exact .inl h
          · exact .inr (.inl h)
          · exact .inr (.inr (.inl h))
          · exact .inr (.inr (.inr (.inl h)))
          · exact .inr (.inr (.inr (.inr ⟨e, hsub.out e (passL_sub kk he), h⟩))))
        omega
      · rw [show ((k + 1 : Nat) : Int) = (k : Int) + 1 by omega]
        exact lft_pass hI'.out hP.out hTn hTs hk64 (k : Int) D hDi.out hst'.out hLf.out
      · rw [List.length_append]; omega
      · exact (hext.trans hx2 (fun q _ hq => hownW q hq)).trans hx3 (fun q hq e1 => by have := hg q e1; omega)
      · rcases hg3 with e2 | e2
        · exact hg q (by rw [← e2, e1])
        · rw [e1] at e2
          have e3 : q = w2.heap.size := Option.some.inj e2
          omega
    · have t0 : decide ((k : Int) < 4) = false := by simp; omega
      obtain rfl : k = 4 := by omega
      go_wp2_with fail
      refine (near_calls { W with sl := sl } T wr hW hTs (fun t ht => hI'.out.sbnd (hP.out.sub (4, 0) t ht)) (Nat.le_trans (passG_len (lv := 0) (f0 := 0) (fun e he => hL'.out e (hsub.out e he)) 0 (4, 0)) (by omega))).mono ?_
      rintro e w2 ⟨A2, c2, b2, o2, n, W2, e2, rfl, hr2, hn2, hlo, hhi, hW2e, he2, hW2, hx2, hown2, hgone⟩
      subst hW2e
      have hlen2 := passG_len (lv := 0) (f0 := 0) (fun e he => hL'.out e (hsub.out e he)) 0 (4, 0)
      have hPn := Lib.hid (part_near hI'.out hP.out (4, 0) n he2)
      have hIn := Lib.hid (inv_move hI'.out hPn.out (lft_near hI'.out hP.out hTs hLf.out he2 hhi))
      have hlate2 := Lib.hid (show slotOf (mput sl (4, 0) e2) (-1, 0) = [] by rw [slotOf_mput, if_neg (by decide)]; exact hlate.out)
      have hO' := hO.keep hx2 (fun q e1 e2 => by have := hg q e1; have := hown q e2; omega)
      have hsz2 := hx2.size
      clear hlt0
      clear hlo hhi hL0 hP0 hsub0
      change (slotOf sl (4, 0)).length ≤ 1000 at hlen2
      change SlR w2 2 timerE A2 c2 b2 o2 ((slotOf sl (4, 0)).take n) at hr2
      change n ≤ (slotOf sl (4, 0)).length at hn2
      have htl := Lib.hid (show ((Wh.get { W with sl := sl } (4, 0)).xs.take n).length = ((slotOf sl (4, 0)).take n).length from rfl)
      rw [htl.out]
      have htl2 : ((slotOf sl (4, 0)).take n).length ≤ 1000 := by rw [List.length_take]; omega
      dsimp only at hW2
      generalize hmp : mput sl (4, 0) e2 = sl2 at *
      generalize htk : (slotOf sl (4, 0)).take n = fs at *
      have hb1 : (mv.length + fs.length) * 16 ≤ 140737488355328 := by omega
      have hb2 : mv.length + fs.length ≤ maxLen := by unfold maxLen; omega
      have hgbn : ¬ g = some W.b := fun e1 => by
        have h1 := hg _ e1
        have h2 := hown0.out W.b (.inl rfl)
        omega
      have hblk2 := hW2.blk
      dsimp only at hblk2
      have c0w : w2.cell? ⟨W.b, 0, none⟩ = some (.int .u64 W.now) := hW2.c0
      go_wp2_with (at_builtin; go_loud (refine wpList_appendO rfl rfl elem_tm timerE_len timerE_one hO' rfl hr2 rfl rfl hb1 hb2 (fun v3 w3 g3 hO3 hx3 hg3 => ?_); have c03 := hx3.cell c0w hgbn; have hfz := frz0 (off := 0) (hx3.keep hblk2 hgbn); obtain ⟨A3, c3, b3, o3, rfl, hr3', hgr3⟩ := hO3.read))
      have h3 := hW2.keep hx3 (fun q hq e1 => by
        have h1 := hg q e1
        rcases hown2 q hq with h2 | h2
        · have := hown q h2; omega
        · have := hO.lt e1; omega)
      obtain ⟨h5, hx5⟩ := h3.with_now T hTs
      dsimp only at h5 hx5
      have hgb3 : ∀ q, g3 = some q → w.heap.size ≤ q := fun q e1 => by
        rcases hg3 with e2 | e2
        · exact hg q (by rw [← e2, e1])
        · rw [e1] at e2
          have e3 : q = w2.heap.size := Option.some.inj e2
          omega
      have hO5 := hO3.keep hx5 (fun q e1 e2 => by have := hgb3 q e1; have := hown0.out W.b (.inl rfl); omega)
      have hb3 : 0 < (mv ++ fs).length → w.heap.size ≤ b3 := fun hp => hgb3 b3 (hgr3 hp)
      have hr5 := hr3'.keep hx5 (fun hp e1 => by have := hb3 hp; have := hown0.out W.b (.inl rfl); omega)
      have hx35 := ((hext.trans hx2 (fun q _ hq => hownW q hq)).trans hx3 (F := W.own) (fun q hq e1 => by have := hg q e1; omega)).trans hx5 (F := W.own) (fun q _ e1 => .inl e1)
      have hownA := Lib.hid (show ∀ q, Wh.own { W with sl := sl2 } q → W.own q ∨ w.heap.size ≤ q from fun q hq => (hown2 q hq).imp (hownW q) (fun e => by omega))
      have hownB := Lib.hid (show 0 < (mv ++ fs).length → ¬ Wh.own { W with sl := sl2 } b3 from fun hp hq => by
        have h1 := hgr3 hp
        have h2 := hW2.lt b3 hq
        rcases hg3 with e2 | e2
        · rw [h1] at e2
          have h3 := hg b3 e2.symm
          rcases hown2 b3 hq with h4 | h4
          · have := hown b3 h4; omega
          · have := hO.lt e2.symm; omega
        · rw [h1] at e2
          have e3 : b3 = w2.heap.size := Option.some.inj e2
          omega)
      generalize w3.setCell ⟨W.b, 0, none⟩ (.int .u64 T) = w5 at *
      have hml2 : mv.length + fs.length = (mv ++ fs).length := (List.length_append).symm
      rw [hml2]
      generalize hms : mv ++ fs = ms at *
      obtain ⟨W5, hW5⟩ : ∃ W5, { W with now := T, sl := sl2 } = W5 := ⟨_, rfl⟩
      have i1 : W5.b = W.b := by rw [← hW5]
      have i2 : W5.now = T := by rw [← hW5]
      have i3 : W5.due = W.due := by rw [← hW5]
      rw [hW5] at h5 hIn
      have hnd := Lib.hid (hPn.out.nd)
      have i4 : slotOf W5.sl (-1, 0) = [] := by rw [← hW5]; exact hlate2.out
      have hTold := Lib.hid (told_of hIn.out i3 i2 i4 hnd.out)
      have hLeft := Lib.hid (left_of hIn.out i3 i2 i4)
      clear i4
      clear hms hPn
      go_loopw [7, 49] (fun out i wz => ∃ (k : Nat) (W' : Wh) (g' : Option Nat), k ≤ ms.length ∧ i = .int .i64 k ∧ WhAt wz W' ∧ Hid (Inv W' (ms.drop k)) ∧ W'.b = W.b ∧ W'.now = T ∧ Hid (W'.due = W.due.filter (fun e => decide (¬ ((e.2, e.1) ∈ ms.take k ∧ e.2 ≤ (T : Int))))) ∧
        SlO wz 33 2 timerE g' out ((ms.take k).filter (fun t => decide (t.1 ≤ (T : Int)))) ∧ SlR wz 2 timerE A3 c3 b3 o3 ms ∧ Ext W.own w wz ∧ (∀ q, W'.own q → W.own q ∨ w.heap.size ≤ q) ∧ (∀ q, g' = some q → w.heap.size ≤ q ∧ ¬ W'.own q) ∧ (0 < ms.length → ¬ W'.own b3 ∧ g' ≠ some b3)) (fun _ i _ => ms.length - (intOf i).toNat)
      case atStart =>
        refine ⟨0, W5, none, by omega, rfl, h5, hIn, i1, i2, Lib.hid ?_, SlO.nil _ _ _ _, hr5, hx35, fun q hq => hownA.out q (by rw [← hW5] at hq; exact hq), by simp, fun hp => ⟨fun hq => hownB.out hp (by rw [← hW5] at hq; exact hq), by simp⟩⟩
        rw [i3]; simp
        exact (List.filter_eq_self.2 (fun _ _ => rfl)).symm
      case round =>
        obtain ⟨k, W', g', hk, rfl, hW', hI2, hb', hn', hdue, hOz, hrz, hxz, hownz, hgz, hb3z⟩ := hrel
        clear h5 hO5 hr5 hx35
        by_cases hlt : k < ms.length
        · have t0 : decide (k < ms.length) = true := by simp [hlt]
          obtain rfl := hrz.addr (by omega)
          have e0 := hrz.cell timerE_len k ms[k] (List.getElem?_eq_getElem hlt) 0 _ rfl
          rw [Nat.add_zero] at e0
          have e1 := hrz.cell timerE_len k ms[k] (List.getElem?_eq_getElem hlt) 1 _ rfl
          have hdrop := Lib.hid (show ms.drop k = ms[k] :: ms.drop (k + 1) from List.drop_eq_getElem_cons hlt)
          have htake := Lib.hid (show ms.take (k + 1) = ms.take k ++ [ms[k]] from List.take_succ_eq_append_getElem hlt)
          generalize hu : ms[k] = u at *
          obtain ⟨ud, ui⟩ := u
          by_cases hdu : ud ≤ (T : Int)
          · have t1 : decide (ud ≤ (T : Int)) = true := by simp [hdu]
            have hol : ((ms.take k).filter (fun t => decide (t.1 ≤ (T : Int)))).length ≤ k := Nat.le_trans (List.length_filter_le _ _) (by rw [List.length_take]; omega)
            have hms9 : ms.length ≤ 300000 := by omega
            generalize hog : (ms.take k).filter (fun t => decide (t.1 ≤ (T : Int))) = ol at *
            have hgk : ¬ g' = some wr.heap.size := fun e => by have := hOz.lt e; omega
            have hb1' : (ol.length + 1) * 16 ≤ 140737488355328 := by omega
            have hb2' : ol.length + 1 ≤ maxLen := by unfold maxLen; omega
            go_wp2_with (at_builtin; go_loud (refine wpList_appendO (ys := [((ud : Int), ui)]) rfl rfl elem_tm timerE_len timerE_one (hOz.keep (((Ext.refl NoB _).alloc _).alloc _) (fun _ _ => nb)) rfl (SlR.one' (alloc_at' _ _ _ (by simp)) rfl) rfl rfl hb1' hb2' (fun v' w6 g6 hO6 hx6 hg6 => ?_); have f1 := hx6.cell (two_alloc _ _ _ _ _) hgk))
            have hxA := ((Ext.refl NoB wr).alloc (.cells #[.int .u64 ud, .int .i64 ui] 33)).alloc (.cells #[.int .u64 ud, .int .i64 ui] 33)
            have h6 := (hW'.keep hxA (fun _ _ => nb)).keep hx6 (fun q hq e1 => (hgz q e1).2 hq)
            have hf := forget_calls W' ui w6 h6
            rw [hb'] at hf
            refine hf.mono ?_
            rintro e w9 ⟨rfl, h9, hx9⟩
            rw [← hb'] at h9
            go_wp2_with fail
            have hnd' : ((ud, ui) : Tm) ∉ ms.drop (k + 1) := by
              have := hnd.out.sublist (List.drop_sublist k ms)
              rw [hdrop.out] at this
              exact (List.nodup_cons.1 this).1
            have hI9 := Lib.hid (inv_forget (t := (ud, ui)) (by rw [← hdrop.out]; exact hI2.out) hnd')
            have hszA := hxA.size
            have hO9 := hO6.keep hx9 (fun q e1 e2 => by
              rcases hg6 with e3 | e3
              · exact (hgz q (by rw [← e3, e1])).2 e2
              · rw [e1] at e3
                have e4 := Option.some.inj e3
                have := hW'.lt q e2
                omega)
            refine ⟨⟨k + 1, { W' with at' := mdel W'.at' ui, due := mdel W'.due ui }, g6, by omega, by go_num, h9, hI9, hb', hn', Lib.hid ?_, ?_, ?_, ?_, hownz, ?_, ?_⟩, by simp [intOf]; omega⟩
            · show mdel W'.due ui = _
              have hm1 := mem_of_mget (hI2.out.fly (ud, ui) (by rw [hdrop.out]; exact List.mem_cons_self ..))
              rw [hdue.out] at hm1 ⊢
              exact due_step hI'.out.nd htake.out hdu (List.mem_filter.1 hm1).1
            · rw [htake.out, List.filter_append, hog]; simpa [hdu] using hO9
            · exact ((hrz.keep hxA nb1).keep hx6 (fun hp e1 => (hb3z hp).2 e1)).keep hx9 (fun hp e1 => (hb3z hp).1 e1)
            · exact ((hxz.trans hxA (fun _ _ e => e.elim)).trans hx6 (F := W.own) (fun q hq e1 => by have := (hgz q e1).1; omega)).trans hx9 (F := W.own) (fun q hq e1 => by
                rcases hownz q e1 with h | h
                · exact h
                · omega)
            · intro q e1
              rcases hg6 with e3 | e3
              · exact hgz q (by rw [← e3, e1])
              · rw [e1] at e3
                have e4 := Option.some.inj e3
                have hszz := hxz.size
                exact ⟨by omega, fun e2 => by have := hW'.lt q e2; omega⟩
            · intro hp
              refine ⟨(hb3z hp).1, fun e1 => ?_⟩
              rcases hg6 with e3 | e3
              · exact (hb3z hp).2 (by rw [← e3, e1])
              · rw [e1] at e3
                have e4 := Option.some.inj e3
                have h9 : b3 < wr.heap.size := World.block_lt_of_cell? wr _ e0
                omega
          · obtain ⟨hu0, hu1⟩ := hI2.out.bnd (t := (ud, ui)) (hI2.out.fly (ud, ui) (by rw [hdrop.out]; exact List.mem_cons_self ..))
            dsimp only at hu0 hu1
            have t1 : decide (ud ≤ (T : Int)) = false := by simp [hdu]
            go_wp2_with fail
            have hxA := (Ext.refl NoB wr).alloc (.cells #[.int .u64 ud, .int .i64 ui] 33)
            obtain ⟨du, rfl⟩ : ∃ du : Nat, ud = (du : Int) := ⟨ud.toNat, by omega⟩
            have hp := put_calls W' du ui _ (hW'.keep hxA (fun _ _ => nb)) (by omega) (hI2.out.srt _) (Nat.le_trans (hI2.out.len _) (by omega))
            rw [hb'] at hp
            refine hp.mono ?_
            rintro e w9 ⟨W9, rfl, hPT, h9, hx9, hown9⟩
            go_wp2_with fail
            have hnd' : (((du : Int), ui) : Tm) ∉ ms.drop (k + 1) := by
              have := hnd.out.sublist (List.drop_sublist k ms)
              rw [hdrop.out] at this
              exact (List.nodup_cons.1 this).1
            have hszA := hxA.size
            have hszz := hxz.size
            have hbl : b3 < wr.heap.size := World.block_lt_of_cell? wr _ e0
            refine ⟨⟨k + 1, W9, g', by omega, by go_num, h9, Lib.hid (inv_put (t := ((du : Int), ui)) (by rw [← hdrop.out]; exact hI2.out) hnd' hPT), by rw [hPT.b, hb'], by rw [hPT.now, hn'], Lib.hid ?_, ?_, (hrz.keep hxA nb1).keep hx9 (fun hp e1 => (hb3z hp).1 e1), ?_, fun q hq => ?_, fun q e1 => ⟨(hgz q e1).1, fun hq => ?_⟩, fun hp => ⟨fun hq => ?_, (hb3z hp).2⟩⟩, by simp [intOf]; omega⟩
            · rw [hPT.due, hdue.out, htake.out]
              refine List.filter_congr (fun e he => ?_)
              by_cases hed : e.2 = (du : Int)
              · have hdu' : T < du := by omega
                simp [hed, hdu']
              · simp [hed]
            · rw [htake.out, List.filter_append, List.filter_cons_of_neg (by simp; omega), List.filter_nil, List.append_nil]
              exact (hOz.keep hxA (fun _ _ => nb)).keep hx9 (fun q e1 e2 => (hgz q e1).2 e2)
            · exact (hxz.trans hxA (fun _ _ e => e.elim)).trans hx9 (F := W.own) (fun q hq e1 => by
                rcases hownz q e1 with h | h
                · exact h
                · omega)
            · rcases hown9 q hq with h | h
              · exact hownz q h
              · exact .inr (by omega)
            · rcases hown9 q hq with h | h
              · exact (hgz q e1).2 h
              · have := hOz.lt e1; omega
            · rcases hown9 b3 hq with h | h
              · exact (hb3z hp).1 h
              · omega
        · have t0 : decide (k < ms.length) = false := by simp [hlt]
          obtain rfl : k = ms.length := by omega
          rw [List.take_length] at hOz
          have hdr := Lib.hid (show ms.drop ms.length = [] from List.drop_length)
          have htk9 := Lib.hid (show ms.take ms.length = ms from List.take_length)
          have hol : (ms.filter (fun t => decide (t.1 ≤ (T : Int)))).length ≤ ms.length := List.length_filter_le _ _
          generalize hog : ms.filter (fun t => decide (t.1 ≤ (T : Int))) = ol at *
          have hog' := Lib.hid hog
          clear hog
          go_wp2_with fail
          refine (sort_calls g' _ ol wr hOz (by omega)).mono ?_
          rintro e w9 ⟨rfl, hO9, hx9⟩
          go_wp2_with fail
          refine (clip_calls g' _ _ w9 hO9).mono ?_
          rintro e wA ⟨v9, rfl, hOA, rfl⟩
          go_wp2_with fail
          go_ret
          refine ⟨v9, g', sortT ol, W', rfl, hOA, ?_, ⟨hb', hn', ?_, by have := hI2.out; rw [hdr.out] at this; exact this⟩, hW'.keep hx9 (fun q hq e1 => (hgz q e1).2 hq), hxz.trans hx9 (F := W.own) (fun q hq e1 => by have := (hgz q e1).1; omega), hownz, hgz⟩
          · exact hTold.out
          · rw [hdue.out, htk9.out]; exact hLeft.out

end Go.Proofs.Ytnobodgjabgikaa
