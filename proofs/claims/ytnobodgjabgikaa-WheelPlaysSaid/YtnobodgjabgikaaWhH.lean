/- The wheel: Add, Cancel. -/
import Derived.Test.YtnobodgjabgikaaProg
import Derived.Test.YtnobodgjabgikaaWhG
namespace Go.Proofs.Ytnobodgjabgikaa
open Go.RowKit Go.Sort
set_option linter.unusedSimpArgs false
set_option linter.unusedVariables false

/-- What Add does. -/
def AddTo (W : Wh) (id : Int) (due : Nat) (er : Int) (W' : Wh) : Prop :=
  (id < 1 ∧ er = 1 ∧ W' = W) ∨ (1 ≤ id ∧ (mget W.due id).isSome = true ∧ er = 9 ∧ W' = W) ∨ (1 ≤ id ∧ mget W.due id = none ∧ 1000 ≤ W.due.length ∧ er = 65 ∧ W' = W) ∨
  (1 ≤ id ∧ mget W.due id = none ∧ W.due.length < 1000 ∧ er = 0 ∧ PutTo { W with due := mput W.due id due } ((due : Int), id) (whereS W.now due) W')
def AddPost (W : Wh) (id : Int) (due : Nat) (w : World) (e : Ending) (w' : World) : Prop :=
  ∃ W' er, e = .returned (.int .i64 er) ∧ AddTo W id due er W' ∧ WhAt w' W' ∧ Ext W.own w w' ∧ ∀ q, W'.own q → W.own q ∨ w.heap.size ≤ q

set_option maxRecDepth 100000 in
set_option maxHeartbeats 4000000 in
theorem add_calls (W : Wh) (id : Int) (due : Nat) (w : World) (h : WhAt w W) (hd : due < 18446744073709551616) (hs : ((W.get (whereS W.now due)).xs).Pairwise tlt) (hL : ((W.get (whereS W.now due)).xs).length ≤ 900000) :
    Calls Try.prog 10 #[.pointer (some ⟨W.b, 0, none⟩), .int .i64 id, .int .u64 due] w (AddPost W id due w) := by
  have c2 := h.c2
  have hl0 : (Instr.lookup 56 (.map (some W.r2)) (.int .i64 id) true).run Try.prog w = .ok (.tuple #[.int .u64 ((mget W.due id).getD 0), .bool (mget W.due id).isSome]) w :=
    h.m2.run_lookup key_int Try.underlying56 (z := 0) zero_u64 id true
  have hln := h.m2.run_len (P := Try.prog) Try.underlying56 #[56] rfl 3
  have hsame : ∀ er, AddTo W id due er W → AddPost W id due w (.returned (.int .i64 er)) w := fun er ha => ⟨W, er, rfl, ha, h, Ext.refl _ _, fun q hq => .inl hq⟩
  have hsame' := Lib.hid hsame
  clear hsame
  by_cases h1 : id < 1
  · have ha : Hid (AddTo W id due 1 W) := .inl ⟨h1, rfl, rfl⟩
    have t1 : decide (id < 1) = true := by simp [h1]
    generalize (mget W.due id).getD 0 = d at *
    generalize (mget W.due id).isSome = o at *
    go_enter Try.func10, Try.ntmps10
    go_wp2_with fail
    go_ret
    exact hsame'.out 1 ha.out
  · have t1 : decide (id < 1) = false := by simp; omega
    cases hm : mget W.due id with
    | some d0 =>
      have ha : Hid (AddTo W id due 9 W) := .inr (.inl ⟨by omega, by rw [hm]; rfl, rfl, rfl⟩)
      rw [hm] at hl0
      have hm' := Lib.hid hm
      clear hm
      go_enter Try.func10, Try.ntmps10
      go_wp2_with fail
      go_ret
      exact hsame'.out 9 ha.out
    | none =>
      rw [hm] at hl0
      by_cases h2 : 1000 ≤ W.due.length
      · have ha : Hid (AddTo W id due 65 W) := .inr (.inr (.inl ⟨by omega, hm, h2, rfl, rfl⟩))
        have t2 : decide (1000 ≤ W.due.length) = true := by simp [h2]
        have t3 : decide ((1000 : Int) ≤ (W.due.length : Int)) = true := by simp; omega
        have hm' := Lib.hid hm
        clear hm
        go_enter Try.func10, Try.ntmps10
        go_wp2_with fail
        go_ret
        exact hsame'.out 65 ha.out
      · have t2 : decide (1000 ≤ W.due.length) = false := by simp; omega
        have t3 : decide ((1000 : Int) ≤ (W.due.length : Int)) = false := by simp; omega
        have hm' := Lib.hid hm
        clear hm
        go_enter Try.func10, Try.ntmps10
        go_wp2_with (at_mapUpdate; refine wpList_mapPut (ek := intV .i64) (ev := intV .u64) rfl rfl key_int Try.underlying56 h.m2 rfl id rfl (due : Int) rfl (fun w1 hm1 hx1 => ?_))
        have hh1 := h.with_due hm1 hx1
        have hput := Lib.hid (put_calls { W with due := mput W.due id due } due id w1 hh1 hd hs hL)
        refine hput.out.mono ?_
        rintro e w2 ⟨W', rfl, hp, hW', hx2, hown⟩
        go_wp2_with fail
        go_ret
        have hsz := hx1.size
        have x1 : Ext W.own w w1 := hx1.mono (fun q _ e => .inr (.inr (.inl e)))
        exact ⟨W', 0, rfl, .inr (.inr (.inr ⟨by omega, hm'.out, by omega, rfl, hp⟩)), hW', x1.trans hx2 (fun _ _ h => h), fun q hq => (hown q hq).imp (fun h => h) (fun e => by omega)⟩

theorem spot_at {xs : List Tm} {t : Tm} {i : Nat} (hs : xs.Pairwise tlt) (h : Spot xs t i) (ht : t ∈ xs) : ∃ hi : i < xs.length, xs[i] = t := by
  obtain ⟨j, hj, rfl⟩ := List.mem_iff_getElem.1 ht
  have h1 : i ≤ j := Classical.byContradiction fun hn => tlt_irrefl _ (h.low j hj (by omega))
  have hi : i < xs.length := by omega
  by_cases he : i = j
  · subst he; exact ⟨hi, rfl⟩
  · exact absurd (List.pairwise_iff_getElem.1 hs i j hi hj (by omega)) (h.high i hi (Nat.le_refl _))

/-- What Cancel of one that is there leaves. -/
structure CanTo (W : Wh) (t : Tm) (s : Spt) (W' : Wh) : Prop where
  b : W'.b = W.b
  now : W'.now = W.now
  due : W'.due = mdel W.due t.2
  at' : W'.at' = mdel W.at' t.2
  sl : ∃ e, W'.sl = mput W.sl s e ∧ ∃ i, ∃ hi : i < (W.get s).xs.length, (W.get s).xs[i] = t ∧ e.xs = (W.get s).xs.eraseIdx i
def CanPost (W : Wh) (t : Tm) (s : Spt) (w : World) (e : Ending) (w' : World) : Prop :=
  ∃ W', e = .returned (.bool true) ∧ CanTo W t s W' ∧ WhAt w' W' ∧ Ext W.own w w' ∧ ∀ q, W'.own q → W.own q ∨ w.heap.size ≤ q

set_option maxHeartbeats 1000000 in
theorem cancel_none (W : Wh) (id : Int) (w : World) (h : WhAt w W) (hm : mget W.due id = none) :
    Calls Try.prog 16 #[.pointer (some ⟨W.b, 0, none⟩), .int .i64 id] w fun e w' => e = .returned (.bool false) ∧ w = w' := by
  have c2 := h.c2
  have hl0 : (Instr.lookup 56 (.map (some W.r2)) (.int .i64 id) true).run Try.prog w = .ok (.tuple #[.int .u64 ((mget W.due id).getD 0), .bool (mget W.due id).isSome]) w :=
    h.m2.run_lookup key_int Try.underlying56 (z := 0) zero_u64 id true
  rw [hm] at hl0
  clear hm
  go_enter Try.func16, Try.ntmps16
  go_wp2_with fail
  go_ret
  exact ⟨rfl, rfl⟩

set_option maxRecDepth 100000 in
set_option maxHeartbeats 4000000 in
theorem cancel_calls (W : Wh) (id d : Int) (s1 s2 : Int) (w : World) (h : WhAt w W) (hm : mget W.due id = some d) (ha : mget W.at' id = some (s1, s2)) (hs : ((W.get (s1, s2)).xs).Pairwise tlt) (hL : ((W.get (s1, s2)).xs).length ≤ 900000) (hin : (d, id) ∈ (W.get (s1, s2)).xs) :
    Calls Try.prog 16 #[.pointer (some ⟨W.b, 0, none⟩), .int .i64 id] w (CanPost W (d, id) (s1, s2) w) := by
  have c1 := h.c1
  have c2 := h.c2
  have hl0 : (Instr.lookup 56 (.map (some W.r2)) (.int .i64 id) true).run Try.prog w = .ok (.tuple #[.int .u64 d, .bool true]) w := by
    have := h.m2.run_lookup (P := Try.prog) key_int Try.underlying56 (z := 0) zero_u64 id true
    rw [hm] at this
    exact this
  have hla : (Instr.lookup 55 (.map (some W.r1)) (.int .i64 id) false).run Try.prog w = .ok (.agg #[.int .i64 s1, .int .i64 s2]) w := by
    have := h.m1.run_lookup (P := Try.prog) key_int Try.underlying55 (z := (0, 0)) zero_spot id false
    rw [ha] at this
    exact this
  clear hm ha
  have hx13 : Ext NoB w (w.alloc (.cells #[.int .i64 s1, .int .i64 s2] 63)) := (Ext.refl NoB w).alloc _
  have hs3 : (w.alloc (.cells #[.int .i64 s1, .int .i64 s2] 63)).heap[w.heap.size]? = some (.cells #[.int .i64 s1, .int .i64 s2] 63 (0, 0)) := alloc_at w _
  go_enter Try.func16, Try.ntmps16
  go_wp2_with fail
  generalize hw4 : w.alloc (.cells #[.int .i64 s1, .int .i64 s2] 63) = w4 at *
  have h4 := h.keep hx13 (fun _ _ => nb)
  have p0' : w4.cell? ⟨w.heap.size, 0, none⟩ = some (.int .i64 s1) := by rw [cell_of_row _ (w.heap.size) 0 _ _ (0, 0) hs3]; rfl
  have p1' : w4.cell? ⟨w.heap.size, 1, none⟩ = some (.int .i64 s2) := by rw [cell_of_row _ (w.heap.size) 1 _ _ (0, 0) hs3]; rfl
  have c3 := h4.c3
  have hsz4 := hx13.size
  clear hw4 hs3 c1 c2 hl0 hla
  have hn4 := h4.get_n (s1, s2)
  have hO4 := h4.get_ok (s1, s2)
  have hown4 := h4.get_own (s1, s2)
  have hgv : (mget W.sl (s1, s2)).getD noSl = W.get (s1, s2) := rfl
  generalize hE : W.get (s1, s2) = E at *
  have hE' := Lib.hid hE
  have hgv' := Lib.hid hgv
  clear hE hgv
  obtain ⟨ea, en, ec, eg, exs⟩ := E
  dsimp only at hn4 hO4 hown4 hs hL hin
  obtain rfl : en = exs.length := hn4
  simp only [slV] at hO4
  obtain ⟨A4, c4, b4, o4, e4, hr4, hgr4⟩ := hO4.read
  simp only [Value.slice.injEq, true_and] at e4
  obtain ⟨rfl, rfl⟩ := e4
  have hl1 : ∀ n, (Instr.lookup 57 (.map (some W.r3)) (.agg #[.int .i64 s1, .int .i64 s2]) false).run Try.prog (w4.drewN n) = .ok (.slice ea exs.length ec) (w4.drewN n) := fun n => by
    have := (h4.m3.of_block (w' := w4.drewN n) rfl).run_lookup key_spot Try.underlying57 (z := noSl) zero_tms (s1, s2) false
    simp only [Bool.false_eq_true, if_false, hgv'.out] at this
    exact this
  have hl1' : (Instr.lookup 57 (.map (some W.r3)) (.agg #[.int .i64 s1, .int .i64 s2]) false).run Try.prog w4.drew = .ok (.slice ea exs.length ec) w4.drew := hl1 1
  clear hl1
  go_region_held3 (fun w' => w'.cell? ⟨W.b, 3, none⟩ = some (.map (some W.r3)) ∧ w'.cell? ⟨w.heap.size, 0, none⟩ = some (.int .i64 s1) ∧ w'.cell? ⟨w.heap.size, 1, none⟩ = some (.int .i64 s2)) (first
    | exact ⟨c3, p0', p1'⟩
    | exact ⟨hx5.cell c3 nb, hx5.cell p0' nb, hx5.cell p1' nb⟩) (first
    | (go_at_call 30; (with_reducible refine (bsearch_calls ea ec b4 o4 exs (d, id) _ (hr4.keep (Ext.refl NoB w4).drew nb1) hs (by omega)).mono ?_); rintro e w5 ⟨i, f5, rfl, hsp, hx5⟩))
  go_wp2_with fail
  have hx45 : Ext NoB w4 w5 := (Ext.refl NoB w4).drew.trans hx5 (fun _ _ h => h)
  have h5 := h4.keep hx45 (fun _ _ => nb)
  have q3 := hx45.cell c3 nb
  have r0 := hx45.cell p0' nb
  have r1 := hx45.cell p1' nb
  have hm5 := h5.m3
  have hO5 := hO4.keep hx45 (fun _ _ => nb)
  have nk : eg ≠ some W.b := by have := h.get_nb (s1, s2); rw [hE'.out] at this; exact this
  have nr : eg ≠ some w.heap.size := fun e => by have := h.lt _ (hown4 _ e); omega
  have hsz5 := hx45.size
  obtain ⟨hi, hat⟩ := spot_at hs hsp hin
  have hat' := Lib.hid hat
  have hwr : IntKind.i64.wrap ((i : Int) + 1) = (i : Int) + 1 := IntWalk.i64_in _ (by omega)
  have hO6 := hO5.keep (Ext.refl NoB w5).drew (fun _ _ => nb)
  have d3 : w5.drew.cell? ⟨W.b, 3, none⟩ = some (.map (some W.r3)) := q3
  have d0 : w5.drew.cell? ⟨w.heap.size, 0, none⟩ = some (.int .i64 s1) := r0
  have d1 : w5.drew.cell? ⟨w.heap.size, 1, none⟩ = some (.int .i64 s2) := r1
  have hm6 : MapAt w5.drew W.r3 (pairV .i64) slV W.sl := hm5.keep (Ext.refl NoB w5).drew nb
  clear c3 p0' p1' hl1' hx5 hat
  refine wp_region_V 15 (fun w' => w'.cell? ⟨W.b, 3, none⟩ = some (.map (some W.r3)) ∧ w'.cell? ⟨w.heap.size, 0, none⟩ = some (.int .i64 s1) ∧ w'.cell? ⟨w.heap.size, 1, none⟩ = some (.int .i64 s2) ∧ MapAt w' W.r3 (pairV .i64) slV W.sl) (by kernel_rfl) ?_
  try simp only [Act.put, List.setIfInBounds_toArray, List.set_cons_zero, List.set_cons_succ]
  refine wpAnyV_take (i := 0) (by kernel_rfl) (by kernel_rfl) (by kernel_rfl) (by kernel_rfl) (by kernel_rfl) (⟨q3, r0, r1, hm5⟩) (fun o ho => ?_)
  conv at ho => rhs; whnf
  subst ho
  refine ⟨?_, fun _ _ _ h => h, Or.inl ⟨by rfl, ?_⟩, ?_⟩
  rotate_left
  · intro w hSw
    try dsimp only at hSw
    first | (go_simp; done) | (go_simp; with_reducible rfl)
  try simp only [Act.put, List.setIfInBounds_toArray, List.set_cons_zero, List.set_cons_succ]
  refine wpAnyV_take (i := 1) (by kernel_rfl) (by kernel_rfl) (by kernel_rfl) (by kernel_rfl) (by kernel_rfl) (⟨q3, r0, r1, hm5⟩) (fun o ho => ?_)
  conv at ho => rhs; whnf
  subst ho
  refine ⟨?_, fun _ _ _ h => h, Or.inl ⟨by rfl, ?_⟩, ?_⟩
  rotate_left
  · intro w hSw
    try dsimp only at hSw
    first | (go_simp; done) | (go_simp; with_reducible rfl)
  try simp only [Act.put, List.setIfInBounds_toArray, List.set_cons_zero, List.set_cons_succ]
  refine wpAnyV_take (i := 2) (by kernel_rfl) (by kernel_rfl) (by kernel_rfl) (by kernel_rfl) (by kernel_rfl) (⟨q3, r0, r1, hm5⟩) (fun o ho => ?_)
  conv at ho => rhs; whnf
  subst ho
  refine ⟨?_, fun _ _ _ h => h, Or.inl ⟨by rfl, ?_⟩, ?_⟩
  rotate_left
  · intro w hSw
    try dsimp only at hSw
    first | (go_simp; done) | (go_simp; with_reducible rfl)
  try simp only [Act.put, List.setIfInBounds_toArray, List.set_cons_zero, List.set_cons_succ]
  refine wpAnyV_take (i := 3) (by kernel_rfl) (by kernel_rfl) (by kernel_rfl) (by kernel_rfl) (by kernel_rfl) (⟨q3, r0, r1, hm5⟩) (fun o ho => ?_)
  conv at ho => rhs; whnf
  subst ho
  refine ⟨?_, fun _ _ _ h => h, Or.inl ⟨by rfl, ?_⟩, ?_⟩
  rotate_left
  · intro w hSw
    try dsimp only at hSw
    first | (go_simp; done) | (go_simp; with_reducible rfl)
  try simp only [Act.put, List.setIfInBounds_toArray, List.set_cons_zero, List.set_cons_succ]
  refine wpAnyV_take (i := 4) (by kernel_rfl) (by kernel_rfl) (by kernel_rfl) (by kernel_rfl) (by kernel_rfl) (⟨q3, r0, r1, hm5⟩) (fun o ho => ?_)
  conv at ho => rhs; whnf
  subst ho
  refine ⟨?_, fun _ _ _ h => h, Or.inl ⟨by rfl, ?_⟩, ?_⟩
  rotate_left
  · intro w hSw
    try dsimp only at hSw
    first | (go_simp; done) | (go_simp; with_reducible rfl)
  try simp only [Act.put, List.setIfInBounds_toArray, List.set_cons_zero, List.set_cons_succ]
  refine wpAnyV_take (i := 5) (by kernel_rfl) (by kernel_rfl) (by kernel_rfl) (by kernel_rfl) (by kernel_rfl) (⟨q3, r0, r1, hm5⟩) (fun o ho => ?_)
  conv at ho => rhs; whnf
  subst ho
  refine ⟨?_, fun _ _ _ h => h, Or.inl ⟨by rfl, ?_⟩, ?_⟩
  rotate_left
  · intro w hSw
    try dsimp only at hSw
    first | (go_simp; done) | (go_simp; with_reducible rfl)
  try simp only [Act.put, List.setIfInBounds_toArray, List.set_cons_zero, List.set_cons_succ]
  refine wpAnyV_take (i := 6) (by kernel_rfl) (by kernel_rfl) (by kernel_rfl) (by kernel_rfl) (by kernel_rfl) (⟨q3, r0, r1, hm5⟩) (fun o ho => ?_)
  conv at ho => rhs; whnf
  subst ho
  refine ⟨?_, fun _ _ _ h => h, Or.inl ⟨by rfl, ?_⟩, ?_⟩
  rotate_left
  · intro w hSw
    try dsimp only at hSw
    first | (go_simp; done) | (go_simp; with_reducible rfl)
  try simp only [Act.put, List.setIfInBounds_toArray, List.set_cons_zero, List.set_cons_succ]
  refine wpAnyV_take (i := 7) (by kernel_rfl) (by kernel_rfl) (by kernel_rfl) (by kernel_rfl) (by kernel_rfl) (⟨q3, r0, r1, hm5⟩) (fun o ho => ?_)
  conv at ho => rhs; whnf
  subst ho
  refine ⟨?_, fun _ _ _ h => h, Or.inl ⟨by rfl, ?_⟩, ?_⟩
  rotate_left
  · intro w hSw
    try dsimp only at hSw
    first | (go_simp; done) | (go_simp; with_reducible rfl)
  try simp only [Act.put, List.setIfInBounds_toArray, List.set_cons_zero, List.set_cons_succ]
  refine wpAnyV_take (i := 8) (by kernel_rfl) (by kernel_rfl) (by kernel_rfl) (by kernel_rfl) (by kernel_rfl) (⟨q3, r0, r1, hm5⟩) (fun o ho => ?_)
  conv at ho => rhs; whnf
  subst ho
  refine ⟨?_, fun _ _ _ h => h, Or.inl ⟨by rfl, ?_⟩, ?_⟩
  rotate_left
  · intro w hSw
    try dsimp only at hSw
    first | (go_simp; done) | (go_simp; with_reducible rfl)
  try simp only [Act.put, List.setIfInBounds_toArray, List.set_cons_zero, List.set_cons_succ]
  refine wpAnyV_take (i := 9) (by kernel_rfl) (by kernel_rfl) (by kernel_rfl) (by kernel_rfl) (by kernel_rfl) (⟨q3, r0, r1, hm5⟩) (fun o ho => ?_)
  conv at ho => rhs; whnf
  subst ho
  refine ⟨?_, fun _ _ _ h => h, Or.inl ⟨by rfl, ?_⟩, ?_⟩
  rotate_left
  · intro w hSw
    try dsimp only at hSw
    first | (go_simp; done) | (go_simp; with_reducible rfl)
  try simp only [Act.put, List.setIfInBounds_toArray, List.set_cons_zero, List.set_cons_succ]
  refine wpAnyV_take (i := 11) (by kernel_rfl) (by kernel_rfl) (by kernel_rfl) (by kernel_rfl) (by kernel_rfl) (⟨q3, r0, r1, hm5⟩) (fun o ho => ?_)
  conv at ho => rhs; whnf
  subst ho
  refine ⟨?_, fun _ _ _ h => h, Or.inl ⟨by rfl, ?_⟩, ?_⟩
  rotate_left
  · intro w hSw
    try dsimp only at hSw
    first | (go_simp; done) | (go_simp; with_reducible rfl)
  try simp only [Act.put, List.setIfInBounds_toArray, List.set_cons_zero, List.set_cons_succ]
  refine wpAnyV_take (i := 12) (by kernel_rfl) (by kernel_rfl) (by kernel_rfl) (by kernel_rfl) (by kernel_rfl) (⟨q3, r0, r1, hm5⟩) (fun o ho => ?_)
  conv at ho => rhs; whnf
  subst ho
  refine ⟨?_, fun _ _ _ h => h, Or.inl ⟨by rfl, ?_⟩, ?_⟩
  rotate_left
  · intro w hSw
    try dsimp only at hSw
    first | (go_simp; done) | (go_simp; with_reducible rfl)
  try simp only [Act.put, List.setIfInBounds_toArray, List.set_cons_zero, List.set_cons_succ]
  refine wpAnyV_take (i := 13) (by kernel_rfl) (by kernel_rfl) (by kernel_rfl) (by kernel_rfl) (by kernel_rfl) (⟨q3, r0, r1, hm5⟩) (fun o ho => ?_)
  conv at ho => rhs; whnf
  subst ho
  refine ⟨?_, fun _ _ _ h => h, Or.inl ⟨by rfl, ?_⟩, ?_⟩
  rotate_left
  · intro w hSw
    try dsimp only at hSw
    first | (go_simp; done) | (go_simp; with_reducible rfl)
  try simp only [Act.put, List.setIfInBounds_toArray, List.set_cons_zero, List.set_cons_succ]
  refine wpAnyV_take (i := 10) (by kernel_rfl) (by kernel_rfl) (by kernel_rfl) (by kernel_rfl) (by kernel_rfl) (⟨q3, r0, r1, hm5⟩) (fun o ho => ?_)
  conv at ho => rhs; whnf
  subst ho
  refine ⟨?_, fun _ _ _ h => h, Or.inl ⟨by rfl, ?_⟩, ?_⟩
  rotate_left
  · intro w hSw
    refine Eq.trans (lookup_yields (om := .tmp 48) (ox := .tmp 49) ?_ key_spot Try.underlying57 zero_tms hSw.2.2.2 ?_ (s1, s2) ?_) ?_
    · rfl
    · rfl
    · rfl
    rw [hgv'.out]
  try simp only [Act.put, List.setIfInBounds_toArray, List.set_cons_zero, List.set_cons_succ]
  refine wpAnyV_one (i := 14) (by kernel_rfl) (by kernel_rfl) (fun o ho K hK => ?_)
  conv at ho => rhs; whnf
  subst ho
  go_simp
  refine (delete_calls eg (.slice ea exs.length ec) exs i _ hO6 hi (by omega)).mono ?_
  rintro e w7 ⟨v7, rfl, hO7, hx7⟩
  obtain ⟨a7, c7, b7, o7, rfl, hr7, hgr7⟩ := hO7.read
  try go_simp
  refine hK.out _ _ (Or.inr ⟨hx7.cell d3 nk, hx7.cell d0 nr, hx7.cell d1 nr, hm6.keep hx7 (hO6.ne_map hm6)⟩) ?_
  clear hK K
  try simp only [Act.put, List.setIfInBounds_toArray, List.set_cons_zero, List.set_cons_succ]
  refine wpAnyV_one (i := 15) (by kernel_rfl) (by kernel_rfl) (fun o ho K hK => ?_)
  conv at ho => rhs; whnf
  subst ho
  refine step_mapPut (ek := pairV .i64) (ev := slV) rfl rfl key_spot Try.underlying57 (hm6.keep hx7 (hO6.ne_map hm6)) rfl (s1, s2) rfl ⟨a7, (exs.eraseIdx i).length, c7, eg, exs.eraseIdx i⟩ rfl ?_
  intro w8 hm8 hx8
  refine hK.out _ _ (Or.inl rfl) ?_
  clear hK K
  try simp only [Act.put, List.setIfInBounds_toArray, List.set_cons_zero, List.set_cons_succ]
  refine wpAnyV_done (by kernel_rfl) ?_ _
  clear hwr
  go_wp2_with fail
  obtain ⟨u1, u2, u3⟩ := WhAt.with_sl (W := W) (h5.keep (Ext.refl NoB w5).drew (fun _ _ => nb)) (s := (s1, s2)) (e' := ⟨a7, (exs.eraseIdx i).length, c7, eg, exs.eraseIdx i⟩) (w5 := w7) (w6 := w8) (by
    rw [hE'.out]; exact hx7) hO7 (by
    rw [hE'.out]; exact .inl rfl) hm8 hx8
  with_reducible refine (forget_calls { W with sl := mput W.sl (s1, s2) ⟨a7, (exs.eraseIdx i).length, c7, eg, exs.eraseIdx i⟩ } id w8 u1).mono ?_
  rintro e w9 ⟨rfl, h9, hx9⟩
  go_wp2_with fail
  go_ret
  have hown9 : ∀ q, Wh.own { W with sl := mput W.sl (s1, s2) ⟨a7, (exs.eraseIdx i).length, c7, eg, exs.eraseIdx i⟩ } q → W.own q := fun q hq => by
    rcases hq with e | e | e | e | ⟨x, hx, e⟩
    · exact .inl e
    · exact .inr (.inl e)
    · exact .inr (.inr (.inl e))
    · exact .inr (.inr (.inr (.inl e)))
    · rcases mem_mput hx with rfl | ⟨hx, hne⟩
      · exact hown4 q e
      · exact .inr (.inr (.inr (.inr ⟨x, hx, e⟩)))
  exact ⟨{ W with at' := mdel W.at' id, due := mdel W.due id, sl := mput W.sl (s1, s2) ⟨a7, (exs.eraseIdx i).length, c7, eg, exs.eraseIdx i⟩ }, rfl, ⟨rfl, rfl, rfl, rfl, ⟨a7, (exs.eraseIdx i).length, c7, eg, exs.eraseIdx i⟩, rfl, i, by rw [hE'.out]; exact hi, by simp only [hE'.out]; exact hat'.out, by simp only [hE'.out]⟩, h9,
    (((hx13.trans hx45 (fun _ _ h => h)).drew.mono (fun _ _ e => e.elim)).trans u2 (fun _ _ h => h)).trans (hx9.mono (fun q _ e => hown9 q e)) (fun _ _ h => h), fun q hq => .inl (hown9 q hq)⟩

end Go.Proofs.Ytnobodgjabgikaa
