/- The wheel: pass. -/
import Derived.Test.YtnobodgjabgikaaProg
import Derived.Test.YtnobodgjabgikaaWhI
namespace Go.Proofs.Ytnobodgjabgikaa
open Go.RowKit Go.Sort
set_option linter.unusedSimpArgs false
set_option linter.unusedVariables false

/-- The slot of the k-th round. -/
def passAt (lv : Int) (f0 k : Nat) : Spt := (lv, (((f0 + k) % 64 : Nat) : Int))
/-- The slots, after k rounds. -/
def passL (sl : List (Spt × SlC)) (lv : Int) (f0 : Nat) : Nat → List (Spt × SlC)
  | 0 => sl
  | k + 1 => mdel (passL sl lv f0 k) (passAt lv f0 k)
/-- The timers taken, after k rounds. -/
def passO (sl : List (Spt × SlC)) (lv : Int) (f0 : Nat) : Nat → List Tm
  | 0 => []
  | k + 1 => passO sl lv f0 k ++ ((mget (passL sl lv f0 k) (passAt lv f0 k)).getD noSl).xs

theorem mem_mdel {K V : Type} [DecidableEq K] {m : List (K × V)} {x : K} {e : K × V} (h : e ∈ mdel m x) : e ∈ m := (List.mem_filter.1 h).1
theorem passL_sub {sl : List (Spt × SlC)} {lv : Int} {f0 : Nat} : ∀ (k : Nat) {e : Spt × SlC}, e ∈ passL sl lv f0 k → e ∈ sl
  | 0, _, h => h
  | k + 1, _, h => passL_sub k (mem_mdel h)
theorem passG_len {sl : List (Spt × SlC)} {lv : Int} {f0 : Nat} (h : ∀ e ∈ sl, e.2.xs.length ≤ 1000) (k : Nat) (s : Spt) : ((mget (passL sl lv f0 k) s).getD noSl).xs.length ≤ 1000 := by
  cases hm : mget (passL sl lv f0 k) s with
  | none => exact Nat.zero_le _
  | some e => exact h _ (passL_sub k (mem_of_mget hm))
theorem passO_len {sl : List (Spt × SlC)} {lv : Int} {f0 : Nat} (h : ∀ e ∈ sl, e.2.xs.length ≤ 1000) : ∀ k, (passO sl lv f0 k).length ≤ 1000 * k
  | 0 => Nat.le_refl _
  | k + 1 => by
    have h1 := passO_len (lv := lv) (f0 := f0) h k
    have h2 := passG_len (lv := lv) (f0 := f0) h k (passAt lv f0 k)
    show (passO sl lv f0 k ++ _).length ≤ _
    rw [List.length_append]; omega
theorem WhAt.del_sl {w w' : World} {W : Wh} {s : Spt} (h : WhAt w W) (hm : MapAt w' W.r3 (pairV .i64) slV (mdel W.sl s)) (hx : Ext (fun q => q = W.r3) w w') : WhAt w' { W with sl := mdel W.sl s } :=
  ⟨hx.keep h.blk (ne_mapB h.m3 h.blk), h.m1.keep hx h.d13, h.m2.keep hx h.d23, hm, fun e he => (h.ok e (mem_mdel he)).keep hx (fun q hq e1 => (h.ok e (mem_mdel he)).ne_map h.m3 (by rw [hq, e1])), fun x hx y hy => h.dj x (mem_mdel hx) y (mem_mdel hy), fun e he => h.nb e (mem_mdel he), h.d12, h.d13, h.d23, h.small⟩
theorem own_del {W : Wh} {s : Spt} {q : Nat} (h : Wh.own { W with sl := mdel W.sl s } q) : W.own q := by
  rcases h with h | h | h | h | ⟨e, he, h⟩
  · exact .inl h
  · exact .inr (.inl h)
  · exact .inr (.inr (.inl h))
  · exact .inr (.inr (.inr (.inl h)))
  · exact .inr (.inr (.inr (.inr ⟨e, mem_mdel he, h⟩)))

def PassPost (W : Wh) (lv : Int) (D to : Nat) (w : World) (e : Ending) (w' : World) : Prop :=
  ∃ (k : Nat) (v : Value) (g : Option Nat), e = .returned v ∧ k ≤ 64 ∧ (k = 64 ∨ to / D < (W.now / D + 1 + k) % 18446744073709551616) ∧ SlO w' 33 2 timerE g v (passO W.sl lv (W.now / D + 1) k) ∧
    WhAt w' { W with sl := passL W.sl lv (W.now / D + 1) k } ∧ Ext W.own w w' ∧ (∀ q, g = some q → w.heap.size ≤ q)
theorem passPost_mk {W : Wh} {lv : Int} {D to f0 k : Nat} {w w' : World} {v : Value} {g : Option Nat} (hf : W.now / D + 1 = f0) (h1 : k ≤ 64) (h2 : k = 64 ∨ to / D < (f0 + k) % 18446744073709551616) (h3 : SlO w' 33 2 timerE g v (passO W.sl lv f0 k))
    (h4 : WhAt w' { W with sl := passL W.sl lv f0 k }) (h5 : Ext W.own w w') (h6 : ∀ q, g = some q → w.heap.size ≤ q) : PassPost W lv D to w (.returned v) w' := by
  subst hf
  exact ⟨k, v, g, rfl, h1, h2, h3, h4, h5, h6⟩

set_option maxRecDepth 100000 in
set_option maxHeartbeats 4000000 in
theorem pass_calls0 (W : Wh) (to : Nat) (w : World) (h : WhAt w W) (hto : to < 18446744073709551616) (hL : ∀ e ∈ W.sl, e.2.xs.length ≤ 1000) :
    Calls Try.prog 24 #[.pointer (some ⟨W.b, 0, none⟩), .int .i64 0, .int .u64 to] w (PassPost W 0 1 to w) := by
  have c0 := h.c0
  have hlt0 := Lib.hid (show ∀ q, W.own q → q < w.heap.size from fun q hq => h.lt q hq)
  have hnow := h.small
  obtain ⟨f0, hf0⟩ : ∃ f0, W.now / 1 + 1 = f0 := ⟨_, rfl⟩
  obtain ⟨en, hen⟩ : ∃ en, to / 1 = en := ⟨_, rfl⟩
  have hfv := Lib.hid (show (((W.now : Int) / 1) + 1) % 18446744073709551616 = ((f0 % 18446744073709551616 : Nat) : Int) by omega)
  have hev := Lib.hid (show ((to : Int) / 1) = (en : Int) by omega)
  have hen' : en < 18446744073709551616 := by omega
  go_enter Try.func24, Try.ntmps24
  go_wp2_with fail
  go_quiet (fail)
  go_wp2_with fail
  refine gen_wp ?_
  intro w0 hx0
  go_loopw [7, 8, 10] (fun out fr n wr => ∃ (k : Nat) (g : Option Nat), k ≤ 64 ∧ n = .int .i64 k ∧ fr = .int .u64 (((f0 + k) % 18446744073709551616 : Nat) : Int) ∧ SlO wr 33 2 timerE g out (passO W.sl 0 f0 k) ∧ WhAt wr { W with sl := passL W.sl 0 f0 k } ∧ Ext W.own w wr ∧ (∀ q, g = some q → w.heap.size ≤ q)) (fun _ _ n _ => 64 - (intOf n).toNat)
  case atStart =>
    refine ⟨0, none, by omega, rfl, ?_, SlO.nil _ _ _ _, h.keep hx0 (fun _ _ => nb), hx0.mono (fun _ _ e => e.elim), by simp⟩
    rw [Nat.add_zero, ← hfv.out]
    first | (congr 1; omega) | (show Value.int .u64 (((W.now : Int) + 1) % 18446744073709551616) = _; congr 1; omega)
  case round =>
    obtain ⟨k, g, hk, rfl, rfl, hO, hW, hext, hg⟩ := hrel
    have hsz := hext.size
    have hlenO := passO_len (lv := 0) (f0 := f0) hL k
    obtain ⟨fr, hfr⟩ : ∃ fr, (f0 + k) % 18446744073709551616 = fr := ⟨_, rfl⟩
    have hfr64 : fr < 18446744073709551616 := by omega
    obtain ⟨ix, hix⟩ : ∃ ix : Int, ((fr % 64 : Nat) : Int) = ix := ⟨_, rfl⟩
    have hpa : passAt 0 f0 k = (0, ix) := by show (_, _) = _; rw [← hix]; congr 2; omega
    have hstepL := Lib.hid (show passL W.sl 0 f0 (k + 1) = mdel (passL W.sl 0 f0 k) (0, ix) by rw [← hpa]; rfl)
    have hstepO := Lib.hid (show passO W.sl 0 f0 (k + 1) = passO W.sl 0 f0 k ++ ((mget (passL W.sl 0 f0 k) (0, ix)).getD noSl).xs by rw [← hpa]; rfl)
    have hglen := passG_len (lv := 0) (f0 := f0) hL k (0, ix)
    have hown : ∀ q, Wh.own { W with sl := passL W.sl 0 f0 k } q → W.own q := fun q hq => by
      rcases hq with h | h | h | h | ⟨e, he, h⟩
      · exact .inl h
      · exact .inr (.inl h)
      · exact .inr (.inr (.inl h))
      · exact .inr (.inr (.inr (.inl h)))
      · exact .inr (.inr (.inr (.inr ⟨e, passL_sub k he, h⟩)))
    have hown' := Lib.hid hown
    have hend := Lib.hid (show to / 1 < fr → to / 1 < (f0 + k) % 18446744073709551616 by omega)
    have hnx := Lib.hid (show ((fr : Int) + 1) % 18446744073709551616 = (((f0 + (k + 1)) % 18446744073709551616 : Nat) : Int) by omega)
    clear hpa hown
    rw [hfr]
    generalize hLg : passL W.sl 0 f0 k = L at *
    generalize hOg : passO W.sl 0 f0 k = ol at *
    by_cases hlt : k < 64
    · have t0 : decide ((k : Int) < 64) = true := by simp; omega
      have hf := Lib.hid (show wrap64 (bits .and .u64 (fr : Int) 63) = ix by rw [← hix]; exact fin63 fr hfr64)
      by_cases hle : fr ≤ to
      · have t1 : decide (fr ≤ to) = true := by simp [hle]
        have hLg' := Lib.hid hLg
        have hOg' := Lib.hid hOg
        clear hix hfv hev hLg hOg hfr hle hen hen' hf0 hL h hnow c0
        obtain ⟨W1, hW1⟩ : ∃ W1, { W with sl := L } = W1 := ⟨_, rfl⟩
        have hb : W.b = W1.b := by rw [← hW1]
        rw [hb]
        rw [hW1] at hW
        go_wp2_with fail
        rw [hf.out]
        have hx13 : Ext NoB wr (wr.alloc (.cells #[.int .i64 0, .int .i64 ix] 63)) := (Ext.refl NoB wr).alloc _
        have hs3 : (wr.alloc (.cells #[.int .i64 0, .int .i64 ix] 63)).heap[wr.heap.size]? = some (.cells #[.int .i64 0, .int .i64 ix] 63 (0, 0)) := alloc_at wr _
        generalize hw4 : wr.alloc (.cells #[.int .i64 0, .int .i64 ix] 63) = w4 at *
        have h4 := hW.keep hx13 (fun _ _ => nb)
        have hO4 := hO.keep hx13 (fun _ _ => nb)
        have q0 : w4.cell? ⟨wr.heap.size, 0, none⟩ = some (.int .i64 0) := by rw [cell_of_row _ (wr.heap.size) 0 _ _ (0, 0) hs3]; rfl
        have q1 : w4.cell? ⟨wr.heap.size, 1, none⟩ = some (.int .i64 ix) := by rw [cell_of_row _ (wr.heap.size) 1 _ _ (0, 0) hs3]; rfl
        have q3 := h4.c3
        clear hw4 hs3
        have hgv : (mget W1.sl (0, ix)).getD noSl = W1.get (0, ix) := rfl
        have hn4 := h4.get_n (0, ix)
        have hE4 := h4.get_ok (0, ix)
        have hsl : W1.sl = L := by rw [← hW1]
        rw [← hsl] at hglen hstepO hstepL
        rw [hgv] at hglen hstepO
        generalize hE : W1.get (0, ix) = E at *
        have hE' := Lib.hid hE
        have hgv' := Lib.hid hgv
        clear hE hgv
        obtain ⟨ea, en1, ec, eg, exs⟩ := E
        dsimp only at hn4 hE4 hglen
        obtain rfl : en1 = exs.length := hn4
        simp only [slV] at hE4
        obtain ⟨A4, c4, b4, o4, e4, hr4, hgr4⟩ := hE4.read
        simp only [Value.slice.injEq, true_and] at e4
        obtain ⟨rfl, rfl⟩ := e4
        have hl0 : (Instr.lookup 57 (.map (some W1.r3)) (.agg #[.int .i64 0, .int .i64 ix]) false).run Try.prog w4.drew = .ok (.slice ea exs.length ec) w4.drew := by
          have := (h4.m3.of_block (w' := w4.drew) rfl).run_lookup key_spot Try.underlying57 (z := noSl) zero_tms (0, ix) false
          simp only [Bool.false_eq_true, if_false, hgv'.out] at this
          exact this
        have hb1 : (ol.length + exs.length) * 16 ≤ 140737488355328 := by omega
        have hb2 : ol.length + exs.length ≤ maxLen := by unfold maxLen; omega
        go_still_tail 7, (by kernel_rfl)
        refine wpList_appendO rfl rfl elem_tm timerE_len timerE_one (hO4.keep (Ext.refl NoB w4).drew (fun _ _ => nb)) rfl (hr4.keep (Ext.refl NoB w4).drew nb1) rfl rfl hb1 hb2 (fun v5 w5 g5 hO5 hx5 hg5 => ?_)
        have hx45 : Ext (fun b => g = some b) w4 w5 := (Ext.refl _ w4).drew.trans hx5 (fun _ _ h => h)
        have hown4 : ∀ q, W1.own q → q < w.heap.size := fun q hq => hlt0.out q (hown'.out q (by rw [hW1]; exact hq))
        have h5 := h4.keep hx45 (fun q hq e1 => by have := hown4 q hq; have := hg q e1; omega)
        have hgw : ∀ q, g = some q → q < wr.heap.size := fun q e1 => hO.lt e1
        have q0' := hx45.cell q0 (fun e1 => by have := hgw _ e1; simp at this)
        have q1' := hx45.cell q1 (fun e1 => by have := hgw _ e1; simp at this)
        have q3' := h5.c3
        have hsz4 := hx13.size
        have hsz5 := hx45.size
        have hg5' : ∀ q, g5 = some q → w.heap.size ≤ q := fun q e1 => by
          rcases hg5 with e2 | e2
          · exact hg q (by rw [← e2, e1])
          · rw [e1] at e2
            have e3 : q = w4.heap.size := Option.some.inj e2
            omega
        have hx05 : Ext W.own w w5 := (hext.trans hx13 (fun _ _ e => e.elim)).trans hx45 (fun q hq e1 => by have := hg q e1; omega)
        clear hl0 hO4 h4 q0 q1 q3 hr4 hgr4 hE4 hx5 hx45 hx13
        go_wp2_with fail
        go_still_tail 5, (by kernel_rfl)
        refine wpList_mapDel (ek := pairV .i64) (ev := slV) rfl rfl rfl key_spot Try.underlying57 (h5.m3.of_block rfl) rfl (0, ix) rfl ?_
        intro w6 hm6 hx6
        have hx56 : Ext (fun q => q = W1.r3) w5 w6 := (Ext.refl _ w5).drew.trans hx6 (fun _ _ h => h)
        have h6 := h5.del_sl hm6 hx56
        have hr3 : W1.own W1.r3 := .inr (.inr (.inr (.inl rfl)))
        have hO6 := hO5.keep hx56 (fun q e1 e2 => by have := hg5' q e1; have := hown4 _ hr3; omega)
        clear hm6 hx6 q0' q1' q3'
        go_wp2_with fail
        go_roundw
        case rel =>
          subst hW1
          refine ⟨k + 1, g5, by omega, by go_num, ?_, ?_, ?_, hx05.trans hx56 (fun q hq e1 => by subst e1; exact .inr (.inr (.inr (.inl rfl)))), hg5'⟩
          · show Value.int .u64 (((fr : Int) + 1) % 18446744073709551616) = _
            rw [hnx.out]
          · rw [hstepO.out]; exact hO6
          · rw [hstepL.out]; exact h6
        case measure => simp [intOf]; omega
      · have t1 : decide (fr ≤ to) = false := by simp [hle]
        have hstop := Lib.hid (hend.out (by omega))
        have hLg' := Lib.hid hLg
        have hOg' := Lib.hid hOg
        have hf0' := Lib.hid hf0
        clear hfv hev hLg hOg hfr hle hen hen' hf0 hL h hnow c0 hix
        go_wp2_with fail
        go_ret
        exact passPost_mk hf0'.out hk (.inr hstop.out) (by rw [hOg'.out]; exact hO) (by rw [hLg'.out]; exact hW) hext hg
    · have t0 : decide ((k : Int) < 64) = false := by simp; omega
      have hk64 := Lib.hid (show k = 64 by omega)
      have hLg' := Lib.hid hLg
      have hOg' := Lib.hid hOg
      have hf0' := Lib.hid hf0
      clear hfv hev hLg hOg hfr hen hen' hf0 hL h hnow c0 hix hlt
      go_wp2_with fail
      go_ret
      exact passPost_mk hf0'.out hk (.inl hk64.out) (by rw [hOg'.out]; exact hO) (by rw [hLg'.out]; exact hW) hext hg

set_option maxRecDepth 100000 in
set_option maxHeartbeats 4000000 in
theorem pass_calls1 (W : Wh) (to : Nat) (w : World) (h : WhAt w W) (hto : to < 18446744073709551616) (hL : ∀ e ∈ W.sl, e.2.xs.length ≤ 1000) :
    Calls Try.prog 24 #[.pointer (some ⟨W.b, 0, none⟩), .int .i64 1, .int .u64 to] w (PassPost W 1 64 to w) := by
  have c0 := h.c0
  have hlt0 := Lib.hid (show ∀ q, W.own q → q < w.heap.size from fun q hq => h.lt q hq)
  have hnow := h.small
  obtain ⟨f0, hf0⟩ : ∃ f0, W.now / 64 + 1 = f0 := ⟨_, rfl⟩
  obtain ⟨en, hen⟩ : ∃ en, to / 64 = en := ⟨_, rfl⟩
  have hfv := Lib.hid (show (((W.now : Int) / 64) + 1) % 18446744073709551616 = ((f0 % 18446744073709551616 : Nat) : Int) by omega)
  have hev := Lib.hid (show ((to : Int) / 64) = (en : Int) by omega)
  have hen' : en < 18446744073709551616 := by omega
  go_enter Try.func24, Try.ntmps24
  go_wp2_with fail
  go_quiet (fail)
  go_wp2_with fail
  refine gen_wp ?_
  intro w0 hx0
  go_loopw [7, 8, 10] (fun out fr n wr => ∃ (k : Nat) (g : Option Nat), k ≤ 64 ∧ n = .int .i64 k ∧ fr = .int .u64 (((f0 + k) % 18446744073709551616 : Nat) : Int) ∧ SlO wr 33 2 timerE g out (passO W.sl 1 f0 k) ∧ WhAt wr { W with sl := passL W.sl 1 f0 k } ∧ Ext W.own w wr ∧ (∀ q, g = some q → w.heap.size ≤ q)) (fun _ _ n _ => 64 - (intOf n).toNat)
  case atStart =>
    refine ⟨0, none, by omega, rfl, ?_, SlO.nil _ _ _ _, h.keep hx0 (fun _ _ => nb), hx0.mono (fun _ _ e => e.elim), by simp⟩
    rw [Nat.add_zero, ← hfv.out]
    first | (congr 1; omega) | (show Value.int .u64 (((W.now : Int) + 1) % 18446744073709551616) = _; congr 1; omega)
  case round =>
    obtain ⟨k, g, hk, rfl, rfl, hO, hW, hext, hg⟩ := hrel
    have hsz := hext.size
    have hlenO := passO_len (lv := 1) (f0 := f0) hL k
    obtain ⟨fr, hfr⟩ : ∃ fr, (f0 + k) % 18446744073709551616 = fr := ⟨_, rfl⟩
    have hfr64 : fr < 18446744073709551616 := by omega
    obtain ⟨ix, hix⟩ : ∃ ix : Int, ((fr % 64 : Nat) : Int) = ix := ⟨_, rfl⟩
    have hpa : passAt 1 f0 k = (1, ix) := by show (_, _) = _; rw [← hix]; congr 2; omega
    have hstepL := Lib.hid (show passL W.sl 1 f0 (k + 1) = mdel (passL W.sl 1 f0 k) (1, ix) by rw [← hpa]; rfl)
    have hstepO := Lib.hid (show passO W.sl 1 f0 (k + 1) = passO W.sl 1 f0 k ++ ((mget (passL W.sl 1 f0 k) (1, ix)).getD noSl).xs by rw [← hpa]; rfl)
    have hglen := passG_len (lv := 1) (f0 := f0) hL k (1, ix)
    have hown : ∀ q, Wh.own { W with sl := passL W.sl 1 f0 k } q → W.own q := fun q hq => by
      rcases hq with h | h | h | h | ⟨e, he, h⟩
      · exact .inl h
      · exact .inr (.inl h)
      · exact .inr (.inr (.inl h))
      · exact .inr (.inr (.inr (.inl h)))
      · exact .inr (.inr (.inr (.inr ⟨e, passL_sub k he, h⟩)))
    have hown' := Lib.hid hown
    have hend := Lib.hid (show to / 64 < fr → to / 64 < (f0 + k) % 18446744073709551616 by omega)
    have hnx := Lib.hid (show ((fr : Int) + 1) % 18446744073709551616 = (((f0 + (k + 1)) % 18446744073709551616 : Nat) : Int) by omega)
    clear hpa hown
    rw [hfr]
    generalize hLg : passL W.sl 1 f0 k = L at *
    generalize hOg : passO W.sl 1 f0 k = ol at *
    by_cases hlt : k < 64
    · have t0 : decide ((k : Int) < 64) = true := by simp; omega
      have hf := Lib.hid (show wrap64 (bits .and .u64 (fr : Int) 63) = ix by rw [← hix]; exact fin63 fr hfr64)
      by_cases hle : (fr : Int) ≤ (to : Int) / 64
      · have t1 : decide ((fr : Int) ≤ (to : Int) / 64) = true := by simp [hle]
        have hLg' := Lib.hid hLg
        have hOg' := Lib.hid hOg
        clear hix hfv hev hLg hOg hfr hle hen hen' hf0 hL h hnow c0
        obtain ⟨W1, hW1⟩ : ∃ W1, { W with sl := L } = W1 := ⟨_, rfl⟩
        have hb : W.b = W1.b := by rw [← hW1]
        rw [hb]
        rw [hW1] at hW
        go_wp2_with fail
        rw [hf.out]
        have hx13 : Ext NoB wr (wr.alloc (.cells #[.int .i64 1, .int .i64 ix] 63)) := (Ext.refl NoB wr).alloc _
        have hs3 : (wr.alloc (.cells #[.int .i64 1, .int .i64 ix] 63)).heap[wr.heap.size]? = some (.cells #[.int .i64 1, .int .i64 ix] 63 (0, 0)) := alloc_at wr _
        generalize hw4 : wr.alloc (.cells #[.int .i64 1, .int .i64 ix] 63) = w4 at *
        have h4 := hW.keep hx13 (fun _ _ => nb)
        have hO4 := hO.keep hx13 (fun _ _ => nb)
        have q0 : w4.cell? ⟨wr.heap.size, 0, none⟩ = some (.int .i64 1) := by rw [cell_of_row _ (wr.heap.size) 0 _ _ (0, 0) hs3]; rfl
        have q1 : w4.cell? ⟨wr.heap.size, 1, none⟩ = some (.int .i64 ix) := by rw [cell_of_row _ (wr.heap.size) 1 _ _ (0, 0) hs3]; rfl
        have q3 := h4.c3
        clear hw4 hs3
        have hgv : (mget W1.sl (1, ix)).getD noSl = W1.get (1, ix) := rfl
        have hn4 := h4.get_n (1, ix)
        have hE4 := h4.get_ok (1, ix)
        have hsl : W1.sl = L := by rw [← hW1]
        rw [← hsl] at hglen hstepO hstepL
        rw [hgv] at hglen hstepO
        generalize hE : W1.get (1, ix) = E at *
        have hE' := Lib.hid hE
        have hgv' := Lib.hid hgv
        clear hE hgv
        obtain ⟨ea, en1, ec, eg, exs⟩ := E
        dsimp only at hn4 hE4 hglen
        obtain rfl : en1 = exs.length := hn4
        simp only [slV] at hE4
        obtain ⟨A4, c4, b4, o4, e4, hr4, hgr4⟩ := hE4.read
        simp only [Value.slice.injEq, true_and] at e4
        obtain ⟨rfl, rfl⟩ := e4
        have hl0 : (Instr.lookup 57 (.map (some W1.r3)) (.agg #[.int .i64 1, .int .i64 ix]) false).run Try.prog w4.drew = .ok (.slice ea exs.length ec) w4.drew := by
          have := (h4.m3.of_block (w' := w4.drew) rfl).run_lookup key_spot Try.underlying57 (z := noSl) zero_tms (1, ix) false
          simp only [Bool.false_eq_true, if_false, hgv'.out] at this
          exact this
        have hb1 : (ol.length + exs.length) * 16 ≤ 140737488355328 := by omega
        have hb2 : ol.length + exs.length ≤ maxLen := by unfold maxLen; omega
        go_still_tail 7, (by kernel_rfl)
        refine wpList_appendO rfl rfl elem_tm timerE_len timerE_one (hO4.keep (Ext.refl NoB w4).drew (fun _ _ => nb)) rfl (hr4.keep (Ext.refl NoB w4).drew nb1) rfl rfl hb1 hb2 (fun v5 w5 g5 hO5 hx5 hg5 => ?_)
        have hx45 : Ext (fun b => g = some b) w4 w5 := (Ext.refl _ w4).drew.trans hx5 (fun _ _ h => h)
        have hown4 : ∀ q, W1.own q → q < w.heap.size := fun q hq => hlt0.out q (hown'.out q (by rw [hW1]; exact hq))
        have h5 := h4.keep hx45 (fun q hq e1 => by have := hown4 q hq; have := hg q e1; omega)
        have hgw : ∀ q, g = some q → q < wr.heap.size := fun q e1 => hO.lt e1
        have q0' := hx45.cell q0 (fun e1 => by have := hgw _ e1; simp at this)
        have q1' := hx45.cell q1 (fun e1 => by have := hgw _ e1; simp at this)
        have q3' := h5.c3
        have hsz4 := hx13.size
        have hsz5 := hx45.size
        have hg5' : ∀ q, g5 = some q → w.heap.size ≤ q := fun q e1 => by
          rcases hg5 with e2 | e2
          · exact hg q (by rw [← e2, e1])
          · rw [e1] at e2
            have e3 : q = w4.heap.size := Option.some.inj e2
            omega
        have hx05 : Ext W.own w w5 := (hext.trans hx13 (fun _ _ e => e.elim)).trans hx45 (fun q hq e1 => by have := hg q e1; omega)
        clear hl0 hO4 h4 q0 q1 q3 hr4 hgr4 hE4 hx5 hx45 hx13
        go_wp2_with fail
        go_still_tail 5, (by kernel_rfl)
        refine wpList_mapDel (ek := pairV .i64) (ev := slV) rfl rfl rfl key_spot Try.underlying57 (h5.m3.of_block rfl) rfl (1, ix) rfl ?_
        intro w6 hm6 hx6
        have hx56 : Ext (fun q => q = W1.r3) w5 w6 := (Ext.refl _ w5).drew.trans hx6 (fun _ _ h => h)
        have h6 := h5.del_sl hm6 hx56
        have hr3 : W1.own W1.r3 := .inr (.inr (.inr (.inl rfl)))
        have hO6 := hO5.keep hx56 (fun q e1 e2 => by have := hg5' q e1; have := hown4 _ hr3; omega)
        clear hm6 hx6 q0' q1' q3'
        go_wp2_with fail
        go_roundw
        case rel =>
          subst hW1
          refine ⟨k + 1, g5, by omega, by go_num, ?_, ?_, ?_, hx05.trans hx56 (fun q hq e1 => by subst e1; exact .inr (.inr (.inr (.inl rfl)))), hg5'⟩
          · show Value.int .u64 (((fr : Int) + 1) % 18446744073709551616) = _
            rw [hnx.out]
          · rw [hstepO.out]; exact hO6
          · rw [hstepL.out]; exact h6
        case measure => simp [intOf]; omega
      · have t1 : decide ((fr : Int) ≤ (to : Int) / 64) = false := by simp [hle]
        have hstop := Lib.hid (hend.out (by omega))
        have hLg' := Lib.hid hLg
        have hOg' := Lib.hid hOg
        have hf0' := Lib.hid hf0
        clear hfv hev hLg hOg hfr hle hen hen' hf0 hL h hnow c0 hix
        go_wp2_with fail
        go_ret
        exact passPost_mk hf0'.out hk (.inr hstop.out) (by rw [hOg'.out]; exact hO) (by rw [hLg'.out]; exact hW) hext hg
    · have t0 : decide ((k : Int) < 64) = false := by simp; omega
      have hk64 := Lib.hid (show k = 64 by omega)
      have hLg' := Lib.hid hLg
      have hOg' := Lib.hid hOg
      have hf0' := Lib.hid hf0
      clear hfv hev hLg hOg hfr hen hen' hf0 hL h hnow c0 hix hlt
      go_wp2_with fail
      go_ret
      exact passPost_mk hf0'.out hk (.inl hk64.out) (by rw [hOg'.out]; exact hO) (by rw [hLg'.out]; exact hW) hext hg

set_option maxRecDepth 100000 in
set_option maxHeartbeats 4000000 in
theorem pass_calls2 (W : Wh) (to : Nat) (w : World) (h : WhAt w W) (hto : to < 18446744073709551616) (hL : ∀ e ∈ W.sl, e.2.xs.length ≤ 1000) :
    Calls Try.prog 24 #[.pointer (some ⟨W.b, 0, none⟩), .int .i64 2, .int .u64 to] w (PassPost W 2 4096 to w) := by
  have c0 := h.c0
  have hlt0 := Lib.hid (show ∀ q, W.own q → q < w.heap.size from fun q hq => h.lt q hq)
  have hnow := h.small
  obtain ⟨f0, hf0⟩ : ∃ f0, W.now / 4096 + 1 = f0 := ⟨_, rfl⟩
  obtain ⟨en, hen⟩ : ∃ en, to / 4096 = en := ⟨_, rfl⟩
  have hfv := Lib.hid (show (((W.now : Int) / 4096) + 1) % 18446744073709551616 = ((f0 % 18446744073709551616 : Nat) : Int) by omega)
  have hev := Lib.hid (show ((to : Int) / 4096) = (en : Int) by omega)
  have hen' : en < 18446744073709551616 := by omega
  go_enter Try.func24, Try.ntmps24
  go_wp2_with fail
  go_quiet (fail)
  go_wp2_with fail
  refine gen_wp ?_
  intro w0 hx0
  go_loopw [7, 8, 10] (fun out fr n wr => ∃ (k : Nat) (g : Option Nat), k ≤ 64 ∧ n = .int .i64 k ∧ fr = .int .u64 (((f0 + k) % 18446744073709551616 : Nat) : Int) ∧ SlO wr 33 2 timerE g out (passO W.sl 2 f0 k) ∧ WhAt wr { W with sl := passL W.sl 2 f0 k } ∧ Ext W.own w wr ∧ (∀ q, g = some q → w.heap.size ≤ q)) (fun _ _ n _ => 64 - (intOf n).toNat)
  case atStart =>
    refine ⟨0, none, by omega, rfl, ?_, SlO.nil _ _ _ _, h.keep hx0 (fun _ _ => nb), hx0.mono (fun _ _ e => e.elim), by simp⟩
    rw [Nat.add_zero, ← hfv.out]
    first | (congr 1; omega) | (show Value.int .u64 (((W.now : Int) + 1) % 18446744073709551616) = _; congr 1; omega)
  case round =>
    obtain ⟨k, g, hk, rfl, rfl, hO, hW, hext, hg⟩ := hrel
    have hsz := hext.size
    have hlenO := passO_len (lv := 2) (f0 := f0) hL k
    obtain ⟨fr, hfr⟩ : ∃ fr, (f0 + k) % 18446744073709551616 = fr := ⟨_, rfl⟩
    have hfr64 : fr < 18446744073709551616 := by omega
    obtain ⟨ix, hix⟩ : ∃ ix : Int, ((fr % 64 : Nat) : Int) = ix := ⟨_, rfl⟩
    have hpa : passAt 2 f0 k = (2, ix) := by show (_, _) = _; rw [← hix]; congr 2; omega
    have hstepL := Lib.hid (show passL W.sl 2 f0 (k + 1) = mdel (passL W.sl 2 f0 k) (2, ix) by rw [← hpa]; rfl)
    have hstepO := Lib.hid (show passO W.sl 2 f0 (k + 1) = passO W.sl 2 f0 k ++ ((mget (passL W.sl 2 f0 k) (2, ix)).getD noSl).xs by rw [← hpa]; rfl)
    have hglen := passG_len (lv := 2) (f0 := f0) hL k (2, ix)
    have hown : ∀ q, Wh.own { W with sl := passL W.sl 2 f0 k } q → W.own q := fun q hq => by
      rcases hq with h | h | h | h | ⟨e, he, h⟩
      · exact .inl h
      · exact .inr (.inl h)
      · exact .inr (.inr (.inl h))
      · exact .inr (.inr (.inr (.inl h)))
      · exact .inr (.inr (.inr (.inr ⟨e, passL_sub k he, h⟩)))
    have hown' := Lib.hid hown
    have hend := Lib.hid (show to / 4096 < fr → to / 4096 < (f0 + k) % 18446744073709551616 by omega)
    have hnx := Lib.hid (show ((fr : Int) + 1) % 18446744073709551616 = (((f0 + (k + 1)) % 18446744073709551616 : Nat) : Int) by omega)
    clear hpa hown
    rw [hfr]
    generalize hLg : passL W.sl 2 f0 k = L at *
    generalize hOg : passO W.sl 2 f0 k = ol at *
    by_cases hlt : k < 64
    · have t0 : decide ((k : Int) < 64) = true := by simp; omega
      have hf := Lib.hid (show wrap64 (bits .and .u64 (fr : Int) 63) = ix by rw [← hix]; exact fin63 fr hfr64)
      by_cases hle : (fr : Int) ≤ (to : Int) / 4096
      · have t1 : decide ((fr : Int) ≤ (to : Int) / 4096) = true := by simp [hle]
        have hLg' := Lib.hid hLg
        have hOg' := Lib.hid hOg
        clear hix hfv hev hLg hOg hfr hle hen hen' hf0 hL h hnow c0
        obtain ⟨W1, hW1⟩ : ∃ W1, { W with sl := L } = W1 := ⟨_, rfl⟩
        have hb : W.b = W1.b := by rw [← hW1]
        rw [hb]
        rw [hW1] at hW
        go_wp2_with fail
        rw [hf.out]
        have hx13 : Ext NoB wr (wr.alloc (.cells #[.int .i64 2, .int .i64 ix] 63)) := (Ext.refl NoB wr).alloc _
        have hs3 : (wr.alloc (.cells #[.int .i64 2, .int .i64 ix] 63)).heap[wr.heap.size]? = some (.cells #[.int .i64 2, .int .i64 ix] 63 (0, 0)) := alloc_at wr _
        generalize hw4 : wr.alloc (.cells #[.int .i64 2, .int .i64 ix] 63) = w4 at *
        have h4 := hW.keep hx13 (fun _ _ => nb)
        have hO4 := hO.keep hx13 (fun _ _ => nb)
        have q0 : w4.cell? ⟨wr.heap.size, 0, none⟩ = some (.int .i64 2) := by rw [cell_of_row _ (wr.heap.size) 0 _ _ (0, 0) hs3]; rfl
        have q1 : w4.cell? ⟨wr.heap.size, 1, none⟩ = some (.int .i64 ix) := by rw [cell_of_row _ (wr.heap.size) 1 _ _ (0, 0) hs3]; rfl
        have q3 := h4.c3
        clear hw4 hs3
        have hgv : (mget W1.sl (2, ix)).getD noSl = W1.get (2, ix) := rfl
        have hn4 := h4.get_n (2, ix)
        have hE4 := h4.get_ok (2, ix)
        have hsl : W1.sl = L := by rw [← hW1]
        rw [← hsl] at hglen hstepO hstepL
        rw [hgv] at hglen hstepO
        generalize hE : W1.get (2, ix) = E at *
        have hE' := Lib.hid hE
        have hgv' := Lib.hid hgv
        clear hE hgv
        obtain ⟨ea, en1, ec, eg, exs⟩ := E
        dsimp only at hn4 hE4 hglen
        obtain rfl : en1 = exs.length := hn4
        simp only [slV] at hE4
        obtain ⟨A4, c4, b4, o4, e4, hr4, hgr4⟩ := hE4.read
        simp only [Value.slice.injEq, true_and] at e4
        obtain ⟨rfl, rfl⟩ := e4
        have hl0 : (Instr.lookup 57 (.map (some W1.r3)) (.agg #[.int .i64 2, .int .i64 ix]) false).run Try.prog w4.drew = .ok (.slice ea exs.length ec) w4.drew := by
          have := (h4.m3.of_block (w' := w4.drew) rfl).run_lookup key_spot Try.underlying57 (z := noSl) zero_tms (2, ix) false
          simp only [Bool.false_eq_true, if_false, hgv'.out] at this
          exact this
        have hb1 : (ol.length + exs.length) * 16 ≤ 140737488355328 := by omega
        have hb2 : ol.length + exs.length ≤ maxLen := by unfold maxLen; omega
        go_still_tail 7, (by kernel_rfl)
        refine wpList_appendO rfl rfl elem_tm timerE_len timerE_one (hO4.keep (Ext.refl NoB w4).drew (fun _ _ => nb)) rfl (hr4.keep (Ext.refl NoB w4).drew nb1) rfl rfl hb1 hb2 (fun v5 w5 g5 hO5 hx5 hg5 => ?_)
        have hx45 : Ext (fun b => g = some b) w4 w5 := (Ext.refl _ w4).drew.trans hx5 (fun _ _ h => h)
        have hown4 : ∀ q, W1.own q → q < w.heap.size := fun q hq => hlt0.out q (hown'.out q (by rw [hW1]; exact hq))
        have h5 := h4.keep hx45 (fun q hq e1 => by have := hown4 q hq; have := hg q e1; omega)
        have hgw : ∀ q, g = some q → q < wr.heap.size := fun q e1 => hO.lt e1
        have q0' := hx45.cell q0 (fun e1 => by have := hgw _ e1; simp at this)
        have q1' := hx45.cell q1 (fun e1 => by have := hgw _ e1; simp at this)
        have q3' := h5.c3
        have hsz4 := hx13.size
        have hsz5 := hx45.size
        have hg5' : ∀ q, g5 = some q → w.heap.size ≤ q := fun q e1 => by
          rcases hg5 with e2 | e2
          · exact hg q (by rw [← e2, e1])
          · rw [e1] at e2
            have e3 : q = w4.heap.size := Option.some.inj e2
            omega
        have hx05 : Ext W.own w w5 := (hext.trans hx13 (fun _ _ e => e.elim)).trans hx45 (fun q hq e1 => by have := hg q e1; omega)
        clear hl0 hO4 h4 q0 q1 q3 hr4 hgr4 hE4 hx5 hx45 hx13
        go_wp2_with fail
        go_still_tail 5, (by kernel_rfl)
        refine wpList_mapDel (ek := pairV .i64) (ev := slV) rfl rfl rfl key_spot Try.underlying57 (h5.m3.of_block rfl) rfl (2, ix) rfl ?_
        intro w6 hm6 hx6
        have hx56 : Ext (fun q => q = W1.r3) w5 w6 := (Ext.refl _ w5).drew.trans hx6 (fun _ _ h => h)
        have h6 := h5.del_sl hm6 hx56
        have hr3 : W1.own W1.r3 := .inr (.inr (.inr (.inl rfl)))
        have hO6 := hO5.keep hx56 (fun q e1 e2 => by have := hg5' q e1; have := hown4 _ hr3; omega)
        clear hm6 hx6 q0' q1' q3'
        go_wp2_with fail
        go_roundw
        case rel =>
          subst hW1
          refine ⟨k + 1, g5, by omega, by go_num, ?_, ?_, ?_, hx05.trans hx56 (fun q hq e1 => by subst e1; exact .inr (.inr (.inr (.inl rfl)))), hg5'⟩
          · show Value.int .u64 (((fr : Int) + 1) % 18446744073709551616) = _
            rw [hnx.out]
          · rw [hstepO.out]; exact hO6
          · rw [hstepL.out]; exact h6
        case measure => simp [intOf]; omega
      · have t1 : decide ((fr : Int) ≤ (to : Int) / 4096) = false := by simp [hle]
        have hstop := Lib.hid (hend.out (by omega))
        have hLg' := Lib.hid hLg
        have hOg' := Lib.hid hOg
        have hf0' := Lib.hid hf0
        clear hfv hev hLg hOg hfr hle hen hen' hf0 hL h hnow c0 hix
        go_wp2_with fail
        go_ret
        exact passPost_mk hf0'.out hk (.inr hstop.out) (by rw [hOg'.out]; exact hO) (by rw [hLg'.out]; exact hW) hext hg
    · have t0 : decide ((k : Int) < 64) = false := by simp; omega
      have hk64 := Lib.hid (show k = 64 by omega)
      have hLg' := Lib.hid hLg
      have hOg' := Lib.hid hOg
      have hf0' := Lib.hid hf0
      clear hfv hev hLg hOg hfr hen hen' hf0 hL h hnow c0 hix hlt
      go_wp2_with fail
      go_ret
      exact passPost_mk hf0'.out hk (.inl hk64.out) (by rw [hOg'.out]; exact hO) (by rw [hLg'.out]; exact hW) hext hg

set_option maxRecDepth 100000 in
set_option maxHeartbeats 4000000 in
theorem pass_calls3 (W : Wh) (to : Nat) (w : World) (h : WhAt w W) (hto : to < 18446744073709551616) (hL : ∀ e ∈ W.sl, e.2.xs.length ≤ 1000) :
    Calls Try.prog 24 #[.pointer (some ⟨W.b, 0, none⟩), .int .i64 3, .int .u64 to] w (PassPost W 3 262144 to w) := by
  have c0 := h.c0
  have hlt0 := Lib.hid (show ∀ q, W.own q → q < w.heap.size from fun q hq => h.lt q hq)
  have hnow := h.small
  obtain ⟨f0, hf0⟩ : ∃ f0, W.now / 262144 + 1 = f0 := ⟨_, rfl⟩
  obtain ⟨en, hen⟩ : ∃ en, to / 262144 = en := ⟨_, rfl⟩
  have hfv := Lib.hid (show (((W.now : Int) / 262144) + 1) % 18446744073709551616 = ((f0 % 18446744073709551616 : Nat) : Int) by omega)
  have hev := Lib.hid (show ((to : Int) / 262144) = (en : Int) by omega)
  have hen' : en < 18446744073709551616 := by omega
  go_enter Try.func24, Try.ntmps24
  go_wp2_with fail
  go_quiet (fail)
  go_wp2_with fail
  refine gen_wp ?_
  intro w0 hx0
  go_loopw [7, 8, 10] (fun out fr n wr => ∃ (k : Nat) (g : Option Nat), k ≤ 64 ∧ n = .int .i64 k ∧ fr = .int .u64 (((f0 + k) % 18446744073709551616 : Nat) : Int) ∧ SlO wr 33 2 timerE g out (passO W.sl 3 f0 k) ∧ WhAt wr { W with sl := passL W.sl 3 f0 k } ∧ Ext W.own w wr ∧ (∀ q, g = some q → w.heap.size ≤ q)) (fun _ _ n _ => 64 - (intOf n).toNat)
  case atStart =>
    refine ⟨0, none, by omega, rfl, ?_, SlO.nil _ _ _ _, h.keep hx0 (fun _ _ => nb), hx0.mono (fun _ _ e => e.elim), by simp⟩
    rw [Nat.add_zero, ← hfv.out]
    first | (congr 1; omega) | (show Value.int .u64 (((W.now : Int) + 1) % 18446744073709551616) = _; congr 1; omega)
  case round =>
    obtain ⟨k, g, hk, rfl, rfl, hO, hW, hext, hg⟩ := hrel
    have hsz := hext.size
    have hlenO := passO_len (lv := 3) (f0 := f0) hL k
    obtain ⟨fr, hfr⟩ : ∃ fr, (f0 + k) % 18446744073709551616 = fr := ⟨_, rfl⟩
    have hfr64 : fr < 18446744073709551616 := by omega
    obtain ⟨ix, hix⟩ : ∃ ix : Int, ((fr % 64 : Nat) : Int) = ix := ⟨_, rfl⟩
    have hpa : passAt 3 f0 k = (3, ix) := by show (_, _) = _; rw [← hix]; congr 2; omega
    have hstepL := Lib.hid (show passL W.sl 3 f0 (k + 1) = mdel (passL W.sl 3 f0 k) (3, ix) by rw [← hpa]; rfl)
    have hstepO := Lib.hid (show passO W.sl 3 f0 (k + 1) = passO W.sl 3 f0 k ++ ((mget (passL W.sl 3 f0 k) (3, ix)).getD noSl).xs by rw [← hpa]; rfl)
    have hglen := passG_len (lv := 3) (f0 := f0) hL k (3, ix)
    have hown : ∀ q, Wh.own { W with sl := passL W.sl 3 f0 k } q → W.own q := fun q hq => by
      rcases hq with h | h | h | h | ⟨e, he, h⟩
      · exact .inl h
      · exact .inr (.inl h)
      · exact .inr (.inr (.inl h))
      · exact .inr (.inr (.inr (.inl h)))
      · exact .inr (.inr (.inr (.inr ⟨e, passL_sub k he, h⟩)))
    have hown' := Lib.hid hown
    have hend := Lib.hid (show to / 262144 < fr → to / 262144 < (f0 + k) % 18446744073709551616 by omega)
    have hnx := Lib.hid (show ((fr : Int) + 1) % 18446744073709551616 = (((f0 + (k + 1)) % 18446744073709551616 : Nat) : Int) by omega)
    clear hpa hown
    rw [hfr]
    generalize hLg : passL W.sl 3 f0 k = L at *
    generalize hOg : passO W.sl 3 f0 k = ol at *
    by_cases hlt : k < 64
    · have t0 : decide ((k : Int) < 64) = true := by simp; omega
      have hf := Lib.hid (show wrap64 (bits .and .u64 (fr : Int) 63) = ix by rw [← hix]; exact fin63 fr hfr64)
      by_cases hle : (fr : Int) ≤ (to : Int) / 262144
      · have t1 : decide ((fr : Int) ≤ (to : Int) / 262144) = true := by simp [hle]
        have hLg' := Lib.hid hLg
        have hOg' := Lib.hid hOg
        clear hix hfv hev hLg hOg hfr hle hen hen' hf0 hL h hnow c0
        obtain ⟨W1, hW1⟩ : ∃ W1, { W with sl := L } = W1 := ⟨_, rfl⟩
        have hb : W.b = W1.b := by rw [← hW1]
        rw [hb]
        rw [hW1] at hW
        go_wp2_with fail
        rw [hf.out]
        have hx13 : Ext NoB wr (wr.alloc (.cells #[.int .i64 3, .int .i64 ix] 63)) := (Ext.refl NoB wr).alloc _
        have hs3 : (wr.alloc (.cells #[.int .i64 3, .int .i64 ix] 63)).heap[wr.heap.size]? = some (.cells #[.int .i64 3, .int .i64 ix] 63 (0, 0)) := alloc_at wr _
        generalize hw4 : wr.alloc (.cells #[.int .i64 3, .int .i64 ix] 63) = w4 at *
        have h4 := hW.keep hx13 (fun _ _ => nb)
        have hO4 := hO.keep hx13 (fun _ _ => nb)
        have q0 : w4.cell? ⟨wr.heap.size, 0, none⟩ = some (.int .i64 3) := by rw [cell_of_row _ (wr.heap.size) 0 _ _ (0, 0) hs3]; rfl
        have q1 : w4.cell? ⟨wr.heap.size, 1, none⟩ = some (.int .i64 ix) := by rw [cell_of_row _ (wr.heap.size) 1 _ _ (0, 0) hs3]; rfl
        have q3 := h4.c3
        clear hw4 hs3
        have hgv : (mget W1.sl (3, ix)).getD noSl = W1.get (3, ix) := rfl
        have hn4 := h4.get_n (3, ix)
        have hE4 := h4.get_ok (3, ix)
        have hsl : W1.sl = L := by rw [← hW1]
        rw [← hsl] at hglen hstepO hstepL
        rw [hgv] at hglen hstepO
        generalize hE : W1.get (3, ix) = E at *
        have hE' := Lib.hid hE
        have hgv' := Lib.hid hgv
        clear hE hgv
        obtain ⟨ea, en1, ec, eg, exs⟩ := E
        dsimp only at hn4 hE4 hglen
        obtain rfl : en1 = exs.length := hn4
        simp only [slV] at hE4
        obtain ⟨A4, c4, b4, o4, e4, hr4, hgr4⟩ := hE4.read
        simp only [Value.slice.injEq, true_and] at e4
        obtain ⟨rfl, rfl⟩ := e4
        have hl0 : (Instr.lookup 57 (.map (some W1.r3)) (.agg #[.int .i64 3, .int .i64 ix]) false).run Try.prog w4.drew = .ok (.slice ea exs.length ec) w4.drew := by
          have := (h4.m3.of_block (w' := w4.drew) rfl).run_lookup key_spot Try.underlying57 (z := noSl) zero_tms (3, ix) false
          simp only [Bool.false_eq_true, if_false, hgv'.out] at this
          exact this
        have hb1 : (ol.length + exs.length) * 16 ≤ 140737488355328 := by omega
        have hb2 : ol.length + exs.length ≤ maxLen := by unfold maxLen; omega
        go_still_tail 7, (by kernel_rfl)
        refine wpList_appendO rfl rfl elem_tm timerE_len timerE_one (hO4.keep (Ext.refl NoB w4).drew (fun _ _ => nb)) rfl (hr4.keep (Ext.refl NoB w4).drew nb1) rfl rfl hb1 hb2 (fun v5 w5 g5 hO5 hx5 hg5 => ?_)
        have hx45 : Ext (fun b => g = some b) w4 w5 := (Ext.refl _ w4).drew.trans hx5 (fun _ _ h => h)
        have hown4 : ∀ q, W1.own q → q < w.heap.size := fun q hq => hlt0.out q (hown'.out q (by rw [hW1]; exact hq))
        have h5 := h4.keep hx45 (fun q hq e1 => by have := hown4 q hq; have := hg q e1; omega)
        have hgw : ∀ q, g = some q → q < wr.heap.size := fun q e1 => hO.lt e1
        have q0' := hx45.cell q0 (fun e1 => by have := hgw _ e1; simp at this)
        have q1' := hx45.cell q1 (fun e1 => by have := hgw _ e1; simp at this)
        have q3' := h5.c3
        have hsz4 := hx13.size
        have hsz5 := hx45.size
        have hg5' : ∀ q, g5 = some q → w.heap.size ≤ q := fun q e1 => by
          rcases hg5 with e2 | e2
          · exact hg q (by rw [← e2, e1])
          · rw [e1] at e2
            have e3 : q = w4.heap.size := Option.some.inj e2
            omega
        have hx05 : Ext W.own w w5 := (hext.trans hx13 (fun _ _ e => e.elim)).trans hx45 (fun q hq e1 => by have := hg q e1; omega)
        clear hl0 hO4 h4 q0 q1 q3 hr4 hgr4 hE4 hx5 hx45 hx13
        go_wp2_with fail
        go_still_tail 5, (by kernel_rfl)
        refine wpList_mapDel (ek := pairV .i64) (ev := slV) rfl rfl rfl key_spot Try.underlying57 (h5.m3.of_block rfl) rfl (3, ix) rfl ?_
        intro w6 hm6 hx6
        have hx56 : Ext (fun q => q = W1.r3) w5 w6 := (Ext.refl _ w5).drew.trans hx6 (fun _ _ h => h)
        have h6 := h5.del_sl hm6 hx56
        have hr3 : W1.own W1.r3 := .inr (.inr (.inr (.inl rfl)))
        have hO6 := hO5.keep hx56 (fun q e1 e2 => by have := hg5' q e1; have := hown4 _ hr3; omega)
        clear hm6 hx6 q0' q1' q3'
        go_wp2_with fail
        go_roundw
        case rel =>
          subst hW1
          refine ⟨k + 1, g5, by omega, by go_num, ?_, ?_, ?_, hx05.trans hx56 (fun q hq e1 => by subst e1; exact .inr (.inr (.inr (.inl rfl)))), hg5'⟩
          · show Value.int .u64 (((fr : Int) + 1) % 18446744073709551616) = _
            rw [hnx.out]
          · rw [hstepO.out]; exact hO6
          · rw [hstepL.out]; exact h6
        case measure => simp [intOf]; omega
      · have t1 : decide ((fr : Int) ≤ (to : Int) / 262144) = false := by simp [hle]
        have hstop := Lib.hid (hend.out (by omega))
        have hLg' := Lib.hid hLg
        have hOg' := Lib.hid hOg
        have hf0' := Lib.hid hf0
        clear hfv hev hLg hOg hfr hle hen hen' hf0 hL h hnow c0 hix
        go_wp2_with fail
        go_ret
        exact passPost_mk hf0'.out hk (.inr hstop.out) (by rw [hOg'.out]; exact hO) (by rw [hLg'.out]; exact hW) hext hg
    · have t0 : decide ((k : Int) < 64) = false := by simp; omega
      have hk64 := Lib.hid (show k = 64 by omega)
      have hLg' := Lib.hid hLg
      have hOg' := Lib.hid hOg
      have hf0' := Lib.hid hf0
      clear hfv hev hLg hOg hfr hen hen' hf0 hL h hnow c0 hix hlt
      go_wp2_with fail
      go_ret
      exact passPost_mk hf0'.out hk (.inl hk64.out) (by rw [hOg'.out]; exact hO) (by rw [hLg'.out]; exact hW) hext hg

end Go.Proofs.Ytnobodgjabgikaa
