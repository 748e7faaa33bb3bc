/- The wheel: All, Next. -/
import Derived.Test.YtnobodgjabgikaaProg
import Derived.Test.YtnobodgjabgikaaWhN
import Derived.Maps.RangeWalk
import Derived.Deep.LoopGhost
namespace Go.Proofs.Ytnobodgjabgikaa
open Go.RowKit Go.Sort
set_option linter.unusedSimpArgs false
set_option linter.unusedVariables false
attribute [local go_sem] intV

/-- All of them, in order. -/
def swD (e : Int × Int) : Tm := (e.2, e.1)
def allD (D : List (Int × Int)) : List Tm := sortT (D.map swD)
theorem mem_allD {D : List (Int × Int)} {t : Tm} : t ∈ allD D ↔ (t.2, t.1) ∈ D := by
  unfold allD
  rw [(sortT_perm _).mem_iff, List.mem_map]
  constructor
  · rintro ⟨e, he, rfl⟩; exact he
  · intro h; exact ⟨_, h, rfl⟩
theorem allD_len (D : List (Int × Int)) : (allD D).length = D.length := by unfold allD; rw [sortT_length, List.length_map]
theorem swD_nodup {D : List (Int × Int)} (h : (D.map (·.1)).Nodup) : (D.map swD).Nodup := by
  have h1 : D.Nodup := List.Pairwise.of_map (f := (·.1)) (S := fun a b => a ≠ b) (fun a b hab e => hab (by rw [e])) h
  refine List.Pairwise.map (S := (· ≠ ·)) swD (fun a b hab e => hab ?_) h1
  have e1 := (Prod.mk.inj e).1; have e2 := (Prod.mk.inj e).2
  exact Prod.ext e2 e1
theorem allD_sorted {D : List (Int × Int)} (h : (D.map (·.1)).Nodup) : (allD D).Pairwise tlt := sortT_sorted (swD_nodup h)
theorem sortT_eq {l m : List Tm} (hl : l.Nodup) (h : l.Perm m) : sortT l = sortT m :=
  tlt_eq_of_mem (sortT_sorted hl) (sortT_sorted (h.nodup_iff.1 hl)) (fun t => by rw [(sortT_perm l).mem_iff, (sortT_perm m).mem_iff, h.mem_iff])
theorem sw_mid (l1 l2 : List (Int × Int)) (x : Int × Int) (out tot : List Tm) (h : (out ++ (l1 ++ x :: l2).map swD).Perm tot) : ((out ++ [(x.2, x.1)]) ++ (l1 ++ l2).map swD).Perm tot := by
  refine List.Perm.trans ?_ h
  rw [List.append_assoc]
  refine List.Perm.append_left _ ?_
  rw [List.map_append, List.map_append, List.map_cons]
  show (swD x :: (l1.map swD ++ l2.map swD)).Perm _
  exact List.perm_middle.symm

def AllPost (W : Wh) (w : World) (e : Ending) (w' : World) : Prop :=
  ∃ v g, e = .returned v ∧ SlO w' 33 2 timerE g v (allD W.due) ∧ Ext NoB w w' ∧ (∀ q, g = some q → w.heap.size ≤ q)

set_option maxRecDepth 20000 in
set_option maxHeartbeats 4000000 in
theorem all_calls (W : Wh) {b : Nat} (hb : W.b = b) (w : World) (h : Good w W) : Calls Try.prog 35 #[.pointer (some ⟨b, 0, none⟩)] w (AllPost W w) := by
  subst hb
  have c2 := h.at'.c2
  have hfew := h.inv.few
  have hm2 := h.at'.m2
  have hnd := Lib.hid (swD_nodup h.inv.nd)
  go_enter Try.func35, Try.ntmps35
  go_wp2_with (at_range; refine wpList_range rfl rfl Try.underlying56 hm2 rfl ?_; intro it w1 hit hI hx1)
  go_frame
  go_loopg [3] (W.due.length) (fun k out wr => ∃ cur left outl g, left.length = k ∧ IterAt wr it W.r2 (intV .i64) (intV .u64) W.due cur left ∧ SlO wr 33 2 timerE g out outl ∧ (outl ++ left.map swD).Perm (W.due.map swD) ∧ Ext NoB w wr ∧ (∀ q, g = some q → w.heap.size ≤ q ∧ q ≠ it) ∧ it < wr.heap.size)
  case atStart => exact ⟨none, W.due, [], none, rfl, hI, SlO.nil _ _ _ _, List.Perm.refl _, hx1, by simp, hI.lt⟩
  case round =>
    obtain ⟨cur, left, outl, g, rfl, hIr, hO, hperm, hext, hg, hit'⟩ := hrel
    have hpl := hperm.length_eq
    rw [List.length_append, List.length_map, List.length_map] at hpl
    have hb1 : (outl.length + 1) * 16 ≤ 140737488355328 := by omega
    have hb2 : outl.length + 1 ≤ maxLen := by unfold maxLen; omega
    have hr2 : W.r2 < w.heap.size := h.lt _ (.inr (.inr (.inl rfl)))
    go_wp2_with (first
      | (at_next; refine wpList_next rfl rfl hIr rfl (fun h0 => ?_) (fun l1 x l2 w2 hl hI2 hx2 hen => ?_))
      | (at_builtin; go_loud (refine wpList_appendO (ys := [(x.2, x.1)]) rfl rfl elem_tm timerE_len timerE_one (hO.keep (hx2.alloc _) (fun q hq => (hg q hq).2)) rfl (SlR.one' (alloc_at' _ _ _ rfl) rfl) rfl rfl hb1 hb2 (fun v' w3 g' hO' hx3 hg' => ?_))))
    · subst h0
      refine (sort_calls g _ outl wr hO (by omega)).mono ?_
      rintro e w3 ⟨rfl, hO3, hx3⟩
      go_wp2_with fail
      refine (clip_calls g _ _ w3 hO3).mono ?_
      rintro e w4 ⟨v4, rfl, hO4, rfl⟩
      go_wp2_with fail
      go_ret
      refine ⟨v4, g, rfl, ?_, hext.trans hx3 (fun i hi hgi => absurd hi (Nat.not_lt.2 (hg i hgi).1)), fun q hq => (hg q hq).1⟩
      have hp : outl.Perm (W.due.map swD) := by simpa using hperm
      unfold allD
      rw [← sortT_eq (hp.nodup_iff.2 hnd.out) hp]
      exact hO4
    · go_roundg ((l1 ++ l2).length)
      case measure => simp [hl]
      case rel =>
        have hs := sw_mid l1 l2 x outl (W.due.map swD) (by rw [hl] at hperm; exact hperm)
        have hne : ¬ g = some W.r2 := fun e => absurd (hg _ e).1 (by omega)
        have hne2 : ¬ g = some it := fun e => (hg it e).2 rfl
        have hxa := hx2.alloc (.cells #[.int .u64 x.2, .int .i64 x.1] 33)
        have hlt2 := hx2.size
        refine ⟨some x, l1 ++ l2, outl ++ [(x.2, x.1)], g', rfl, (hI2.keep ((Ext.refl NoB _).alloc _) nb nb).keep hx3 hne hne2, hO', hs,
          (hext.trans hxa (fun i hi h => absurd hi (by omega))).trans hx3 (fun i hi hgi => absurd hi (Nat.not_lt.2 (hg i hgi).1)), ?_, hx3.lt (by simp; omega)⟩
        intro q hq
        rcases hg' with rfl | rfl
        · exact hg q hq
        · simp only [Option.some.injEq] at hq
          have h1 := hext.size
          simp at hq
          exact ⟨by omega, by omega⟩

def nextV (L : List Tm) : Int := match L[0]? with | some t => t.1 | none => 0
def NextPost (W : Wh) (w : World) (e : Ending) (w' : World) : Prop :=
  e = .returned (.tuple #[.int .u64 (nextV (allD W.due)), .bool (decide (0 < W.due.length))]) ∧ Ext NoB w w'
theorem next_mk {W : Wh} {w w' : World} {e : Ending} {L : List Tm} (hL : allD W.due = L) (he : e = .returned (.tuple #[.int .u64 (nextV L), .bool (decide (0 < L.length))])) (hx : Ext NoB w w') : NextPost W w e w' := by
  subst hL
  refine ⟨?_, hx⟩
  rw [he, allD_len]
set_option maxHeartbeats 2000000 in
theorem next_calls (W : Wh) {b : Nat} (hb : W.b = b) (w : World) (h : Good w W) : Calls Try.prog 34 #[.pointer (some ⟨b, 0, none⟩)] w (NextPost W w) := by
  go_enter Try.func34, Try.ntmps34
  go_wp2_with fail
  refine (all_calls W hb w h).mono ?_
  rintro e w1 ⟨v, g, rfl, hO, hx, hg⟩
  generalize hL : allD W.due = L at *
  have hL' := Lib.hid hL
  clear hL
  obtain ⟨A, c, bb, o, rfl, hr, _⟩ := hO.read
  have hl := hr.le
  have hm := hr.max
  unfold maxLen at hm
  cases L with
  | nil =>
    rw [show ([] : List Tm).length = 0 from rfl]
    go_wp2_with fail
    go_ret2
    exact next_mk hL'.out rfl hx
  | cons t L =>
    obtain ⟨td, ti⟩ := t
    obtain rfl := hr.addr (by simp)
    have e0 := hr.cell timerE_len 0 (td, ti) rfl 0 _ rfl
    simp only [Nat.zero_mul, Nat.add_zero] at e0
    rw [List.length_cons] at hl ⊢
    have t1 : ((L.length : Int) + 1 == 0) = false := by simp; omega
    go_wp2_with fail
    go_ret2
    exact next_mk hL'.out (by simp [nextV]) hx

end Go.Proofs.Ytnobodgjabgikaa
