/- The wheel: put. -/
import Derived.Test.YtnobodgjabgikaaProg
import Derived.Test.YtnobodgjabgikaaWhF
import Derived.Test.YtnobodgjabgikaaStepM
namespace Go.Proofs.Ytnobodgjabgikaa
open Go.RowKit Go.Sort
set_option linter.unusedSimpArgs false
set_option linter.unusedVariables false

def Wh.get (W : Wh) (s : Spt) : SlC := (mget W.sl s).getD noSl
theorem WhAt.get_ok {w : World} {W : Wh} (h : WhAt w W) (s : Spt) : SlO w 33 2 timerE (W.get s).g (slV (W.get s)) (W.get s).xs := by
  unfold Wh.get
  cases hm : mget W.sl s with
  | none => exact SlO.nil _ _ _ _
  | some e => exact h.ok (s, e) (mem_of_mget hm)
theorem WhAt.get_n {w : World} {W : Wh} (h : WhAt w W) (s : Spt) : (W.get s).n = (W.get s).xs.length := by
  rcases (h.get_ok s).get with e | ⟨b, o, c, e⟩
  · have hx : (W.get s).xs = [] := by
      rcases h.get_ok s with ⟨_, hx, _⟩ | ⟨_, _, _, _, _, hv, _⟩
      · exact hx
      · rw [e] at hv; cases hv
    simp only [slV, Value.slice.injEq] at e
    rw [hx]; exact e.2.1
  · simp only [slV, Value.slice.injEq] at e
    exact e.2.1
theorem WhAt.get_own {w : World} {W : Wh} (h : WhAt w W) (s : Spt) (q : Nat) (hq : (W.get s).g = some q) : W.own q := by
  unfold Wh.get at hq
  cases hm : mget W.sl s with
  | none => rw [hm] at hq; cases hq
  | some e => rw [hm] at hq; exact .inr (.inr (.inr (.inr ⟨(s, e), mem_of_mget hm, hq⟩)))

theorem mem_mput {K V : Type} [DecidableEq K] {m : List (K × V)} {s : K} {v : V} {p : K × V} (h : p ∈ mput m s v) : p = (s, v) ∨ (p ∈ m ∧ p.1 ≠ s) := by
  unfold mput at h
  split at h
  · obtain ⟨x, hx, rfl⟩ := List.mem_map.1 h
    by_cases hk : x.1 = s
    · rw [if_pos hk]; exact .inl rfl
    · rw [if_neg hk]; exact .inr ⟨hx, hk⟩
  · rename_i hn
    rcases List.mem_append.1 h with h | h
    · exact .inr ⟨h, fun e => hn (List.any_eq_true.2 ⟨p, h, by simp [e]⟩)⟩
    · simp at h; exact .inl h
theorem ne_mapB {w : World} {b r : Nat} {K V : Type} {ek : K → Value} {ev : V → Value} {m : List (K × V)} (h : MapAt w r ek ev m) {cs : Array Value} {E : TypeId} {fr : Nat × Nat} (hb : w.heap[b]? = some (.cells cs E fr)) : b ≠ r := fun e => by
  obtain ⟨es, cl, hm, _⟩ := h
  rw [e, hm] at hb; cases hb
theorem SlO.ne_map {w : World} {α : Type} {E : TypeId} {k : Nat} {enc : α → List Value} {g : Option Nat} {v : Value} {xs : List α} (h : SlO w E k enc g v xs) {r : Nat} {K V : Type} {ek : K → Value} {ev : V → Value} {m : List (K × V)} (hm : MapAt w r ek ev m) : g ≠ some r := fun e => by
  rcases h with ⟨_, _, hg⟩ | ⟨b, o, c, cur, hg, _, hh, _⟩
  · rw [hg] at e; cases e
  · rw [hg] at e; cases e; exact ne_mapB hm hh rfl
theorem WhAt.with_at {w w' : World} {W : Wh} {A : List (Int × Spt)} (h : WhAt w W) (hm : MapAt w' W.r1 (intV .i64) (pairV .i64) A) (hx : Ext (fun q => q = W.r1) w w') : WhAt w' { W with at' := A } :=
  ⟨hx.keep h.blk (ne_mapB h.m1 h.blk), hm, h.m2.keep hx (Ne.symm h.d12), h.m3.keep hx (Ne.symm h.d13), fun e he => (h.ok e he).keep hx (fun q hq e1 => (h.ok e he).ne_map h.m1 (by rw [hq, e1])), h.dj, h.nb, h.d12, h.d13, h.d23, h.small⟩
theorem WhAt.with_due {w w' : World} {W : Wh} {D : List (Int × Int)} (h : WhAt w W) (hm : MapAt w' W.r2 (intV .i64) (intV .u64) D) (hx : Ext (fun q => q = W.r2) w w') : WhAt w' { W with due := D } :=
  ⟨hx.keep h.blk (ne_mapB h.m2 h.blk), h.m1.keep hx h.d12, hm, h.m3.keep hx (Ne.symm h.d23), fun e he => (h.ok e he).keep hx (fun q hq e1 => (h.ok e he).ne_map h.m2 (by rw [hq, e1])), h.dj, h.nb, h.d12, h.d13, h.d23, h.small⟩
theorem WhAt.with_sl {wA w5 w6 : World} {W : Wh} (h : WhAt wA W) {s : Spt} {e' : SlC} (hx5 : Ext (fun q => (W.get s).g = some q) wA w5) (hO : SlO w5 33 2 timerE e'.g (slV e') e'.xs) (hg : e'.g = (W.get s).g ∨ ∀ q, e'.g = some q → wA.heap.size ≤ q)
    (hm : MapAt w6 W.r3 (pairV .i64) slV (mput W.sl s e')) (hx6 : Ext (fun q => q = W.r3) w5 w6) :
    WhAt w6 { W with sl := mput W.sl s e' } ∧ Ext W.own wA w6 ∧ ∀ q, Wh.own { W with sl := mput W.sl s e' } q → W.own q ∨ wA.heap.size ≤ q := by
  have hgb : (W.get s).g ≠ some W.b := fun e => by
    unfold Wh.get at e
    cases hm0 : mget W.sl s with
    | none => rw [hm0] at e; cases e
    | some x => rw [hm0] at e; exact h.nb _ (mem_of_mget hm0) e
  have hsz := hx5.size
  have hm3 : ∀ q, q = W.r1 ∨ q = W.r2 ∨ q = W.r3 → (W.get s).g ≠ some q := fun q hq => by
    rcases hq with rfl | rfl | rfl
    · exact (h.get_ok s).ne_map h.m1
    · exact (h.get_ok s).ne_map h.m2
    · exact (h.get_ok s).ne_map h.m3
  have hother : ∀ e ∈ W.sl, e.1 ≠ s → ∀ q, (W.get s).g = some q → e.2.g ≠ some q := fun e he hne q hq => by
    unfold Wh.get at hq
    cases hm0 : mget W.sl s with
    | none => rw [hm0] at hq; cases hq
    | some x => rw [hm0] at hq; exact fun e1 => h.dj e he (s, x) (mem_of_mget hm0) hne q e1 hq
  have m3' := h.m3.keep hx5 (hm3 _ (.inr (.inr rfl)))
  have hown : ∀ q, e'.g = some q → W.own q ∨ wA.heap.size ≤ q := fun q hq => by
    rcases hg with e | e
    · exact .inl (h.get_own s q (by rw [← e]; exact hq))
    · exact .inr (e q hq)
  have hfresh : ∀ e ∈ W.sl, e.1 ≠ s → ∀ q, e'.g = some q → e.2.g ≠ some q := fun e he hne q hq e1 => by
    rcases hg with h1 | h1
    · exact hother e he hne q (by rw [← h1]; exact hq) e1
    · have := h1 q hq; have := (h.ok e he).lt e1; omega
  refine ⟨⟨hx6.keep (hx5.keep h.blk hgb) (ne_mapB h.m3 h.blk), (h.m1.keep hx5 (hm3 _ (.inl rfl))).keep hx6 h.d13, (h.m2.keep hx5 (hm3 _ (.inr (.inl rfl)))).keep hx6 h.d23, hm, ?_, ?_, ?_, h.d12, h.d13, h.d23, h.small⟩, ?_, ?_⟩
  · intro e he
    rcases mem_mput he with rfl | ⟨he, hne⟩
    · exact hO.keep hx6 (fun q hq e1 => hO.ne_map m3' (by rw [hq, e1]))
    · exact ((h.ok e he).keep hx5 (fun q hq e1 => hother e he hne q e1 hq)).keep hx6 (fun q hq e1 => (h.ok e he).ne_map h.m3 (by rw [hq, e1]))
  · intro x hx y hy hxy q hq
    rcases mem_mput hx with rfl | ⟨hx, hnx⟩
    · rcases mem_mput hy with rfl | ⟨hy, hny⟩
      · exact absurd rfl hxy
      · exact hfresh y hy hny q hq
    · rcases mem_mput hy with rfl | ⟨hy, hny⟩
      · exact fun e1 => hfresh x hx hnx q e1 hq
      · exact h.dj x hx y hy hxy q hq
  · intro e he
    rcases mem_mput he with rfl | ⟨he, hne⟩
    · intro e1
      rcases hg with h1 | h1
      · exact hgb (by rw [← h1]; exact e1)
      · have h2 : wA.heap.size ≤ W.b := h1 _ e1
        have h3 := lt_of_block h.blk
        omega
    · exact h.nb e he
  · exact (hx5.mono (fun q _ e => h.get_own s q e)).trans (hx6.mono (fun q _ e => .inr (.inr (.inr (.inl e))))) (fun _ _ h => h)
  · rintro q (e | e | e | e | ⟨x, hx, e⟩)
    · exact .inl (.inl e)
    · exact .inl (.inr (.inl e))
    · exact .inl (.inr (.inr (.inl e)))
    · exact .inl (.inr (.inr (.inr (.inl e))))
    · rcases mem_mput hx with rfl | ⟨hx, hne⟩
      · exact hown q e
      · exact .inl (.inr (.inr (.inr (.inr ⟨x, hx, e⟩))))

theorem WhAt.get_nb {w : World} {W : Wh} (h : WhAt w W) (s : Spt) : (W.get s).g ≠ some W.b := fun e => by
  unfold Wh.get at e
  cases hm0 : mget W.sl s with
  | none => rw [hm0] at e; cases e
  | some x => rw [hm0] at e; exact h.nb _ (mem_of_mget hm0) e
/-- What put leaves. -/
structure PutTo (W : Wh) (t : Tm) (s : Spt) (W' : Wh) : Prop where
  b : W'.b = W.b
  now : W'.now = W.now
  due : W'.due = W.due
  at' : W'.at' = mput W.at' t.2 s
  sl : ∃ e i, W'.sl = mput W.sl s e ∧ e.xs = insAt (W.get s).xs i t ∧ Spot (W.get s).xs t i
def PutPost (W : Wh) (t : Tm) (s : Spt) (w : World) (e : Ending) (w' : World) : Prop :=
  ∃ W', e = .returned (.tuple #[]) ∧ PutTo W t s W' ∧ WhAt w' W' ∧ Ext W.own w w' ∧ ∀ q, W'.own q → W.own q ∨ w.heap.size ≤ q

set_option maxRecDepth 100000 in
set_option maxHeartbeats 4000000 in
theorem put_calls (W : Wh) (due : Nat) (id : Int) (w : World) (h : WhAt w W) (hd : due < 18446744073709551616) (hs : ((W.get (whereS W.now due)).xs).Pairwise tlt) (hL : ((W.get (whereS W.now due)).xs).length ≤ 900000) :
    Calls Try.prog 22 #[.pointer (some ⟨W.b, 0, none⟩), .agg #[.int .u64 due, .int .i64 id]] w (PutPost W ((due : Int), id) (whereS W.now due) w) := by
  have hx1 : Ext NoB w (w.alloc (.cells #[.int .u64 due, .int .i64 id] 33)) := (Ext.refl NoB w).alloc _
  have ht1 : (w.alloc (.cells #[.int .u64 due, .int .i64 id] 33)).heap[w.heap.size]? = some (.cells #[.int .u64 due, .int .i64 id] 33 (0, 0)) := alloc_at w _
  have f0 : (w.alloc (.cells #[.int .u64 due, .int .i64 id] 33)).cell? ⟨w.heap.size, 0, none⟩ = some (.int .u64 due) := by rw [cell_of_row _ (w.heap.size) 0 _ _ (0, 0) ht1]; rfl
  have hsm := h.small
  go_enter Try.func22, Try.ntmps22
  go_wp2_with fail
  with_reducible refine (where_calls W.b W.now due _ (hx1.cell h.c0 nb) hsm hd).mono ?_
  rintro e w1 ⟨rfl, hx2⟩
  generalize hspt : whereS W.now due = s at *
  obtain ⟨s1, s2⟩ := s
  dsimp only
  go_wp2_with fail
  have hx3 : Ext NoB w1 (w1.alloc (.cells #[.int .i64 s1, .int .i64 s2] 63)) := (Ext.refl NoB w1).alloc _
  have hx13 := (hx1.trans hx2 (fun _ _ h => h)).trans hx3 (fun _ _ h => h)
  have ht3 := hx3.keep (hx2.keep ht1 nb) nb
  have hs3 : (w1.alloc (.cells #[.int .i64 s1, .int .i64 s2] 63)).heap[w1.heap.size]? = some (.cells #[.int .i64 s1, .int .i64 s2] 63 (0, 0)) := alloc_at w1 _
  generalize hw3 : w1.alloc (.cells #[.int .i64 s1, .int .i64 s2] 63) = w3 at *
  have hsz := (hx1.trans hx2 (fun _ _ h => h)).size
  have hsz1 : w.heap.size < w1.heap.size := hx2.lt (lt_of_block ht1)
  clear hw3 hx1 hx2 hx3 ht1 f0
  have h3 := h.keep hx13 (fun _ _ => nb)
  have g0 : w3.cell? ⟨w.heap.size, 0, none⟩ = some (.int .u64 due) := by rw [cell_of_row _ (w.heap.size) 0 _ _ (0, 0) ht3]; rfl
  have g1 : w3.cell? ⟨w.heap.size, 1, none⟩ = some (.int .i64 id) := by rw [cell_of_row _ (w.heap.size) 1 _ _ (0, 0) ht3]; rfl
  have p0 : w3.cell? ⟨w1.heap.size, 0, none⟩ = some (.int .i64 s1) := by rw [cell_of_row _ (w1.heap.size) 0 _ _ (0, 0) hs3]; rfl
  have p1 : w3.cell? ⟨w1.heap.size, 1, none⟩ = some (.int .i64 s2) := by rw [cell_of_row _ (w1.heap.size) 1 _ _ (0, 0) hs3]; rfl
  have c1 := h3.c1
  go_still_tail 7, (by kernel_rfl)
  refine wpList_mapPut (ek := intV .i64) (ev := pairV .i64) rfl rfl key_int Try.underlying55 (h3.m1.of_block rfl) rfl id rfl (s1, s2) rfl ?_
  intro w4 hm4 hx4
  have hx4' : Ext (fun q => q = W.r1) w3 w4 := ((Ext.refl _ w3).drew).trans hx4 (fun _ _ h => h)
  have h4 := h3.with_at hm4 hx4'
  have nn : ∀ {a : Addr} {v : Value}, w3.cell? a = some v → a.block ≠ W.r1 := fun hc => h3.m1.ne_cell hc
  have g0' := hx4'.cell g0 (nn g0)
  have g1' := hx4'.cell g1 (nn g1)
  have p0' := hx4'.cell p0 (nn p0)
  have p1' := hx4'.cell p1 (nn p1)
  have ht4 := hx4'.keep ht3 (ne_mapB h3.m1 ht3)
  have c3 := h4.c3
  have hsz4 := hx4'.size
  clear g0 g1 p0 p1 c1 hx4 hm4 hs3 ht3 nn
  have hgt : W.get (s1, s2) = Wh.get { W with at' := mput W.at' id (s1, s2) } (s1, s2) := rfl
  have hn4 := h4.get_n (s1, s2)
  have hO4 := h4.get_ok (s1, s2)
  have hown4 := h4.get_own (s1, s2)
  rw [← hgt] at hn4 hO4 hown4
  have hgv : (mget W.sl (s1, s2)).getD noSl = W.get (s1, s2) := rfl
  generalize hE : W.get (s1, s2) = E at *
  have hE' := Lib.hid hE
  have hgv' := Lib.hid hgv
  clear hE hgv hgt
  obtain ⟨ea, en, ec, eg, exs⟩ := E
  dsimp only at hn4 hO4 hown4 hs hL
  obtain rfl : en = exs.length := hn4
  simp only [slV] at hO4
  obtain ⟨A4, c4, b4, o4, e4, hr4, hgr4⟩ := hO4.read
  simp only [Value.slice.injEq, true_and] at e4
  obtain ⟨rfl, rfl⟩ := e4
  have hl1 : ∀ n, (Instr.lookup 57 (.map (some W.r3)) (.agg #[.int .i64 s1, .int .i64 s2]) false).run Try.prog (w4.drewN n) = .ok (.slice ea exs.length ec) (w4.drewN n) := fun n => by
    have := (h4.m3.of_block (w' := w4.drewN n) rfl).run_lookup key_spot Try.underlying57 (z := noSl) zero_tms (s1, s2) false
    simp only [Bool.false_eq_true, if_false, hgv'.out] at this
    exact this
  have hl1' : (Instr.lookup 57 (.map (some W.r3)) (.agg #[.int .i64 s1, .int .i64 s2]) false).run Try.prog w4.drew = .ok (.slice ea exs.length ec) w4.drew := hl1 1
  have hspt' := Lib.hid hspt
  clear hspt hl1
  go_wp2_with fail
  go_region_held3 (fun w' => w'.cell? ⟨W.b, 3, none⟩ = some (.map (some W.r3)) ∧ w'.cell? ⟨w1.heap.size, 0, none⟩ = some (.int .i64 s1) ∧ w'.cell? ⟨w1.heap.size, 1, none⟩ = some (.int .i64 s2) ∧ w'.cell? ⟨w.heap.size, 0, none⟩ = some (.int .u64 due) ∧ w'.cell? ⟨w.heap.size, 1, none⟩ = some (.int .i64 id)) (first
    | exact ⟨c3, p0', p1', g0', g1'⟩
    | exact ⟨hx5.cell c3 nb, hx5.cell p0' nb, hx5.cell p1' nb, hx5.cell g0' nb, hx5.cell g1' nb⟩) (first
    | (go_at_call 30; (with_reducible refine (bsearch_calls ea ec b4 o4 exs ((due : Int), id) _ (hr4.keep (Ext.refl NoB w4).drew nb1) hs (by omega)).mono ?_); rintro e w5 ⟨i, f5, rfl, hsp, hx5⟩))
  go_wp2_with fail
  have hx45 : Ext NoB w4 w5 := (Ext.refl NoB w4).drew.trans hx5 (fun _ _ h => h)
  have h5 := h4.keep hx45 (fun _ _ => nb)
  have q3 := hx45.cell c3 nb
  have r0 := hx45.cell p0' nb
  have r1 := hx45.cell p1' nb
  have t0 := hx45.cell g0' nb
  have t1 := hx45.cell g1' nb
  have hm5 := h5.m3
  have hO5 := hO4.keep hx45 (fun _ _ => nb)
  have hal : Ext NoB w5 (w5.alloc (.cells #[.int .u64 due, .int .i64 id] 33)).drew := ((Ext.refl NoB w5).alloc _).drew
  have ht6 : (w5.alloc (.cells #[.int .u64 due, .int .i64 id] 33)).drew.heap[w5.heap.size]? = some (.cells #[.int .u64 due, .int .i64 id] 33 (0, 0)) := alloc_at w5 _
  have nk : eg ≠ some W.b := by have := h.get_nb (s1, s2); rw [hE'.out] at this; exact this
  have nr : eg ≠ some w1.heap.size := fun e => by have := h.lt _ (hown4 _ e); omega
  have nt : eg ≠ some w.heap.size := fun e => by have := h.lt _ (hown4 _ e); omega
  have hO6 := hO5.keep hal (fun _ _ => nb)
  have hgn : eg ≠ some w5.heap.size := fun e => by have := hO5.lt e; omega
  have hsz5 := hx45.size
  clear c3 p0' p1' g0' g1' hl1' hx5
  refine wp_region_V 15 (fun w' => w'.cell? ⟨W.b, 3, none⟩ = some (.map (some W.r3)) ∧ w'.cell? ⟨w1.heap.size, 0, none⟩ = some (.int .i64 s1) ∧ w'.cell? ⟨w1.heap.size, 1, none⟩ = some (.int .i64 s2) ∧ w'.cell? ⟨w.heap.size, 0, none⟩ = some (.int .u64 due) ∧ w'.cell? ⟨w.heap.size, 1, none⟩ = some (.int .i64 id) ∧ MapAt w' W.r3 (pairV .i64) slV W.sl) (by kernel_rfl) ?_
  try simp only [Act.put, List.setIfInBounds_toArray, List.set_cons_zero, List.set_cons_succ]
  refine wpAnyV_take (i := 0) (by kernel_rfl) (by kernel_rfl) (by kernel_rfl) (by kernel_rfl) (by kernel_rfl) (⟨q3, r0, r1, t0, t1, hm5⟩) (fun o ho => ?_)
  conv at ho => rhs; whnf
  subst ho
  refine ⟨?_, fun _ _ _ h => h, Or.inl ⟨by rfl, ?_⟩, ?_⟩
  rotate_left
  · intro w hSw
    try dsimp only at hSw
    first | (go_simp; done) | (go_simp; with_reducible rfl)
  try simp only [Act.put, List.setIfInBounds_toArray, List.set_cons_zero, List.set_cons_succ]
  refine wpAnyV_take (i := 1) (by kernel_rfl) (by kernel_rfl) (by kernel_rfl) (by kernel_rfl) (by kernel_rfl) (⟨q3, r0, r1, t0, t1, hm5⟩) (fun o ho => ?_)
  conv at ho => rhs; whnf
  subst ho
  refine ⟨?_, fun _ _ _ h => h, Or.inl ⟨by rfl, ?_⟩, ?_⟩
  rotate_left
  · intro w hSw
    try dsimp only at hSw
    first | (go_simp; done) | (go_simp; with_reducible rfl)
  try simp only [Act.put, List.setIfInBounds_toArray, List.set_cons_zero, List.set_cons_succ]
  refine wpAnyV_take (i := 2) (by kernel_rfl) (by kernel_rfl) (by kernel_rfl) (by kernel_rfl) (by kernel_rfl) (⟨q3, r0, r1, t0, t1, hm5⟩) (fun o ho => ?_)
  conv at ho => rhs; whnf
  subst ho
  refine ⟨?_, fun _ _ _ h => h, Or.inl ⟨by rfl, ?_⟩, ?_⟩
  rotate_left
  · intro w hSw
    try dsimp only at hSw
    first | (go_simp; done) | (go_simp; with_reducible rfl)
  try simp only [Act.put, List.setIfInBounds_toArray, List.set_cons_zero, List.set_cons_succ]
  refine wpAnyV_take (i := 3) (by kernel_rfl) (by kernel_rfl) (by kernel_rfl) (by kernel_rfl) (by kernel_rfl) (⟨q3, r0, r1, t0, t1, hm5⟩) (fun o ho => ?_)
  conv at ho => rhs; whnf
  subst ho
  refine ⟨?_, fun _ _ _ h => h, Or.inl ⟨by rfl, ?_⟩, ?_⟩
  rotate_left
  · intro w hSw
    try dsimp only at hSw
    first | (go_simp; done) | (go_simp; with_reducible rfl)
  try simp only [Act.put, List.setIfInBounds_toArray, List.set_cons_zero, List.set_cons_succ]
  refine wpAnyV_take (i := 4) (by kernel_rfl) (by kernel_rfl) (by kernel_rfl) (by kernel_rfl) (by kernel_rfl) (⟨q3, r0, r1, t0, t1, hm5⟩) (fun o ho => ?_)
  conv at ho => rhs; whnf
  subst ho
  refine ⟨?_, fun _ _ _ h => h, Or.inl ⟨by rfl, ?_⟩, ?_⟩
  rotate_left
  · intro w hSw
    try dsimp only at hSw
    first | (go_simp; done) | (go_simp; with_reducible rfl)
  try simp only [Act.put, List.setIfInBounds_toArray, List.set_cons_zero, List.set_cons_succ]
  refine wpAnyV_take (i := 5) (by kernel_rfl) (by kernel_rfl) (by kernel_rfl) (by kernel_rfl) (by kernel_rfl) (⟨q3, r0, r1, t0, t1, hm5⟩) (fun o ho => ?_)
  conv at ho => rhs; whnf
  subst ho
  refine ⟨?_, fun _ _ _ h => h, Or.inl ⟨by rfl, ?_⟩, ?_⟩
  rotate_left
  · intro w hSw
    try dsimp only at hSw
    first | (go_simp; done) | (go_simp; with_reducible rfl)
  try simp only [Act.put, List.setIfInBounds_toArray, List.set_cons_zero, List.set_cons_succ]
  refine wpAnyV_take (i := 6) (by kernel_rfl) (by kernel_rfl) (by kernel_rfl) (by kernel_rfl) (by kernel_rfl) (⟨q3, r0, r1, t0, t1, hm5⟩) (fun o ho => ?_)
  conv at ho => rhs; whnf
  subst ho
  refine ⟨?_, fun _ _ _ h => h, Or.inl ⟨by rfl, ?_⟩, ?_⟩
  rotate_left
  · intro w hSw
    try dsimp only at hSw
    first | (go_simp; done) | (go_simp; with_reducible rfl)
  try simp only [Act.put, List.setIfInBounds_toArray, List.set_cons_zero, List.set_cons_succ]
  refine wpAnyV_take (i := 7) (by kernel_rfl) (by kernel_rfl) (by kernel_rfl) (by kernel_rfl) (by kernel_rfl) (⟨q3, r0, r1, t0, t1, hm5⟩) (fun o ho => ?_)
  conv at ho => rhs; whnf
  subst ho
  refine ⟨?_, fun _ _ _ h => h, Or.inl ⟨by rfl, ?_⟩, ?_⟩
  rotate_left
  · intro w hSw
    try dsimp only at hSw
    first | (go_simp; done) | (go_simp; with_reducible rfl)
  try simp only [Act.put, List.setIfInBounds_toArray, List.set_cons_zero, List.set_cons_succ]
  refine wpAnyV_take (i := 8) (by kernel_rfl) (by kernel_rfl) (by kernel_rfl) (by kernel_rfl) (by kernel_rfl) (⟨q3, r0, r1, t0, t1, hm5⟩) (fun o ho => ?_)
  conv at ho => rhs; whnf
  subst ho
  refine ⟨?_, fun _ _ _ h => h, Or.inl ⟨by rfl, ?_⟩, ?_⟩
  rotate_left
  · intro w hSw
    try dsimp only at hSw
    first | (go_simp; done) | (go_simp; with_reducible rfl)
  try simp only [Act.put, List.setIfInBounds_toArray, List.set_cons_zero, List.set_cons_succ]
  refine wpAnyV_take (i := 9) (by kernel_rfl) (by kernel_rfl) (by kernel_rfl) (by kernel_rfl) (by kernel_rfl) (⟨q3, r0, r1, t0, t1, hm5⟩) (fun o ho => ?_)
  conv at ho => rhs; whnf
  subst ho
  refine ⟨?_, fun _ _ _ h => h, Or.inl ⟨by rfl, ?_⟩, ?_⟩
  rotate_left
  · intro w hSw
    try dsimp only at hSw
    first | (go_simp; done) | (go_simp; with_reducible rfl)
  try simp only [Act.put, List.setIfInBounds_toArray, List.set_cons_zero, List.set_cons_succ]
  refine wpAnyV_take (i := 11) (by kernel_rfl) (by kernel_rfl) (by kernel_rfl) (by kernel_rfl) (by kernel_rfl) (⟨q3, r0, r1, t0, t1, hm5⟩) (fun o ho => ?_)
  conv at ho => rhs; whnf
  subst ho
  refine ⟨?_, fun _ _ _ h => h, Or.inl ⟨by rfl, ?_⟩, ?_⟩
  rotate_left
  · intro w hSw
    try dsimp only at hSw
    first | (go_simp; done) | (go_simp; with_reducible rfl)
  try simp only [Act.put, List.setIfInBounds_toArray, List.set_cons_zero, List.set_cons_succ]
  refine wpAnyV_take (i := 12) (by kernel_rfl) (by kernel_rfl) (by kernel_rfl) (by kernel_rfl) (by kernel_rfl) (⟨q3, r0, r1, t0, t1, hm5⟩) (fun o ho => ?_)
  conv at ho => rhs; whnf
  subst ho
  refine ⟨?_, fun _ _ _ h => h, Or.inl ⟨by rfl, ?_⟩, ?_⟩
  rotate_left
  · intro w hSw
    try dsimp only at hSw
    first | (go_simp; done) | (go_simp; with_reducible rfl)
  try simp only [Act.put, List.setIfInBounds_toArray, List.set_cons_zero, List.set_cons_succ]
  refine wpAnyV_take (i := 10) (by kernel_rfl) (by kernel_rfl) (by kernel_rfl) (by kernel_rfl) (by kernel_rfl) (⟨q3, r0, r1, t0, t1, hm5⟩) (fun o ho => ?_)
  conv at ho => rhs; whnf
  subst ho
  refine ⟨?_, fun _ _ _ h => h, Or.inl ⟨by rfl, ?_⟩, ?_⟩
  rotate_left
  · intro w hSw
    refine Eq.trans (lookup_yields (om := .tmp 37) (ox := .tmp 38) ?_ key_spot Try.underlying57 zero_tms hSw.2.2.2.2.2 ?_ (s1, s2) ?_) ?_
    · rfl
    · rfl
    · rfl
    rw [hgv'.out]
  try simp only [Act.put, List.setIfInBounds_toArray, List.set_cons_zero, List.set_cons_succ]
  refine wpAnyV_one (i := 13) (by kernel_rfl) (by kernel_rfl) (fun o ho K hK => ?_)
  conv at ho => rhs; whnf
  subst ho
  go_simp
  refine hK.out _ _ (Or.inr ⟨hal.cell q3 nb, hal.cell r0 nb, hal.cell r1 nb, hal.cell t0 nb, hal.cell t1 nb, hm5.keep hal nb⟩) ?_
  clear hK K
  try simp only [Act.put, List.setIfInBounds_toArray, List.set_cons_zero, List.set_cons_succ]
  refine wpAnyV_one (i := 14) (by kernel_rfl) (by kernel_rfl) (fun o ho K hK => ?_)
  conv at ho => rhs; whnf
  subst ho
  go_simp
  refine (insert_calls eg (.slice ea exs.length ec) exs i ((due : Int), id) w5.heap.size _ hO6 ht6 hgn hsp.le (by omega)).mono ?_
  rintro e w7 ⟨v7, g7, rfl, hO7, hx7, hg7⟩
  obtain ⟨a7, c7, b7, o7, rfl, hr7, hgr7⟩ := hO7.read
  try go_simp
  refine hK.out _ _ (Or.inr ⟨hx7.cell (hal.cell q3 nb) nk, hx7.cell (hal.cell r0 nb) nr, hx7.cell (hal.cell r1 nb) nr, hx7.cell (hal.cell t0 nb) nt, hx7.cell (hal.cell t1 nb) nt, (hm5.keep hal nb).keep hx7 (hO6.ne_map (hm5.keep hal nb))⟩) ?_
  clear hK K
  try simp only [Act.put, List.setIfInBounds_toArray, List.set_cons_zero, List.set_cons_succ]
  refine wpAnyV_one (i := 15) (by kernel_rfl) (by kernel_rfl) (fun o ho K hK => ?_)
  conv at ho => rhs; whnf
  subst ho
  refine step_mapPut (ek := pairV .i64) (ev := slV) rfl rfl key_spot Try.underlying57 ((hm5.keep hal nb).keep hx7 (hO6.ne_map (hm5.keep hal nb))) rfl (s1, s2) rfl ⟨a7, (insAt exs i ((due : Int), id)).length, c7, g7, insAt exs i ((due : Int), id)⟩ rfl ?_
  intro w8 hm8 hx8
  refine hK.out _ _ (Or.inl rfl) ?_
  clear hK K
  try simp only [Act.put, List.setIfInBounds_toArray, List.set_cons_zero, List.set_cons_succ]
  refine wpAnyV_done (by kernel_rfl) ?_ _
  go_wp2_with fail
  go_end0
  obtain ⟨u1, u2, u3⟩ := WhAt.with_sl (W := { W with at' := mput W.at' id (s1, s2) }) (h5.keep hal (fun _ _ => nb)) (s := (s1, s2)) (e' := ⟨a7, (insAt exs i ((due : Int), id)).length, c7, g7, insAt exs i ((due : Int), id)⟩) (w5 := w7) (w6 := w8) (by
    show Ext (fun q => (W.get (s1, s2)).g = some q) _ w7
    rw [hE'.out]; exact hx7) hO7 (by
    show g7 = (W.get (s1, s2)).g ∨ _
    rw [hE'.out]; exact hg7) hm8 hx8
  have hown3 : ∀ q, (Wh.own { W with at' := mput W.at' id (s1, s2) } q) ↔ W.own q := fun q => Iff.rfl
  refine ⟨{ W with at' := mput W.at' id (s1, s2), sl := mput W.sl (s1, s2) ⟨a7, (insAt exs i ((due : Int), id)).length, c7, g7, insAt exs i ((due : Int), id)⟩ }, rfl, ⟨rfl, rfl, rfl, rfl, ⟨a7, (insAt exs i ((due : Int), id)).length, c7, g7, insAt exs i ((due : Int), id)⟩, i, rfl, by rw [hE'.out], by rw [hE'.out]; exact hsp⟩, u1, ?_, fun q hq => ?_⟩
  · exact (((hx13.mono (fun _ _ e => e.elim)).trans (hx4'.mono (fun q _ e => .inr (.inl e))) (fun _ _ h => h)).trans (hx45.trans hal (fun _ _ h => h)) (fun _ _ e => e.elim)).trans u2 (fun _ _ h => h)
  · rcases u3 q hq with e | e
    · exact .inl e
    · refine .inr ?_
      have e1 := hx13.size
      have e2 := hal.size
      omega

end Go.Proofs.Ytnobodgjabgikaa
