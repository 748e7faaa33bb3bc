/- Walks of package dag: side, Waits, Behind, Len, New. -/
import Derived.Test.YtolihdcfhonfgaaProg
import Derived.Test.YtolihdcfhonfgaaDagB
import Derived.Test.YtolihdcfhonfgaaIter
import Derived.Test.YtolihdcfhonfgaaSort
import Derived.Maps.RangeWalk
import Derived.Maps.OwnSet
import Derived.Deep.LoopGhost
namespace Go.Proofs.Ytolihdcfhonfgaa
open Go.RowKit
set_option linter.unusedSimpArgs false
set_option linter.unusedVariables false
attribute [local go_sem] pairV intV

theorem elem_int : ElemT Try.prog 24 3 1 8 := elemT_of (z := .int .i64 0) Try.underlying24 (by kernel_rfl) rfl Nat.one_pos
theorem intE_one (x : Int) : ∀ u ∈ intE x, u.oneCell' = true := by intro u hu; simp only [intE, List.mem_singleton] at hu; subst hu; rfl

theorem new_calls (w : World) : Calls Try.prog 8 #[] w fun e w' =>
    ∃ b r1 r2, e = .returned (.pointer (some ⟨b, 0, none⟩)) ∧ DagAt w' b r1 r2 [] [] ∧ Ext NoB w w' ∧ w.heap.size ≤ b ∧ w.heap.size ≤ r1 ∧ w.heap.size ≤ r2 := by
  have hmm := @run_makeMap Try.prog
  go_enter Try.func8, Try.ntmps8
  go_wp2
  go_ret
  refine ⟨w.heap.size + 2, w.heap.size, w.heap.size + 1, rfl, ⟨?_, ?_, ?_, by omega⟩, (((Ext.refl _ _).alloc _).alloc _).alloc _, by omega, by omega, by omega⟩
  · have := alloc_at ((w.alloc (.map #[] 0)).alloc (.map #[] 0)) (.cells #[.map (some w.heap.size), .map (some (w.heap.size + 1))] 49)
    simpa using this
  · exact ((MapAt.made w).keep ((Ext.refl NoB _).alloc _) nb).keep ((Ext.refl NoB _).alloc _) nb
  · have := MapAt.made (ek := intV .i64) (ev := intV .i64) (w.alloc (.map #[] 0))
    simp only [World.size_alloc] at this
    exact this.keep ((Ext.refl NoB _).alloc _) nb

theorem len_calls (b r1 r2 : Nat) (ps : Pairs) (ns : Nums) (w : World) (hd : DagAt w b r1 r2 ps ns) :
    Calls Try.prog 12 #[.pointer (some ⟨b, 0, none⟩)] w fun e w' => e = .returned (.int .i64 ns.length) ∧ w = w' := by
  have c1 : w.cell? ⟨b, 1, none⟩ = some (.map (some r2)) := by simp [World.cell?, hd.blk]
  have hl := hd.m2.run_len (P := Try.prog) Try.underlying47 #[47] rfl 3
  go_enter Try.func12, Try.ntmps12
  go_wp2
  go_ret
  exact ⟨rfl, rfl⟩

/-! ### side -/
def atP (at' : Int) (x : Int × Int) : Int := if at' = 0 then x.1 else x.2
/-- Those of the pairs that have id at a side: the other sides. -/
def sel (at' id : Int) (ps : Pairs) : List Int := (ps.filter (fun p => atP at' p.1 = id)).map (fun p => atP (1 - at') p.1)
def sideOf (at' id : Int) (ps : Pairs) : List Int := sortI (sel at' id ps)

theorem sortI_eq {l m : List Int} (h : l.Perm m) : sortI l = sortI m := by
  have h1 : (sortI l).Perm (sortI m) := (sortI_perm l).trans (h.trans (sortI_perm m).symm)
  exact h1.eq_of_pairwise (fun a b _ _ h1 h2 => by omega) (sortI_sorted l) (sortI_sorted m)
theorem sel_append (at' id : Int) (a b : Pairs) : sel at' id (a ++ b) = sel at' id a ++ sel at' id b := by simp [sel]
theorem sel_cons (at' id : Int) (p : (Int × Int) × Bool) (b : Pairs) : sel at' id (p :: b) = (if atP at' p.1 = id then [atP (1 - at') p.1] else []) ++ sel at' id b := by
  unfold sel
  rw [List.filter_cons]
  by_cases h : atP at' p.1 = id <;> simp [h]
theorem sel_len (at' id : Int) (ps : Pairs) : (sel at' id ps).length ≤ ps.length := by
  unfold sel; rw [List.length_map]; exact List.length_filter_le _ _
theorem sel_mid (at' id : Int) (l1 l2 : Pairs) (x : (Int × Int) × Bool) (out tot : List Int) (h : (out ++ sel at' id (l1 ++ x :: l2)).Perm tot) :
    ((out ++ (if atP at' x.1 = id then [atP (1 - at') x.1] else [])) ++ sel at' id (l1 ++ l2)).Perm tot := by
  refine List.Perm.trans ?_ h
  rw [sel_append, sel_append, sel_cons, List.append_assoc]
  refine List.Perm.append_left _ ?_
  rw [← List.append_assoc, ← List.append_assoc]
  exact List.Perm.append_right _ List.perm_append_comm

theorem key_pair_inj {x y : Int × Int} (h : pairV .i64 x = pairV .i64 y) : x = y := key_pair.inj h

set_option maxHeartbeats 800000 in
theorem side_calls (b r1 r2 : Nat) (ps : Pairs) (ns : Nums) (id at' : Int) (hat : at' = 0 ∨ at' = 1) (w : World) (hd : DagAt w b r1 r2 ps ns) (hn : ps.length ≤ 1000000) :
    Calls Try.prog 30 #[.pointer (some ⟨b, 0, none⟩), .int .i64 id, .int .i64 at'] w fun e w' =>
      ∃ v g, e = .returned v ∧ SlO w' 3 1 intE g v (sideOf at' id ps) ∧ Ext NoB w w' ∧ (∀ q, g = some q → w.heap.size ≤ q) := by
  have c0 : w.cell? ⟨b, 0, none⟩ = some (.map (some r1)) := by simp [World.cell?, hd.blk]
  have hr1 := hd.m1.lt
  have hsl := sel_len at' id ps
  rcases hat with rfl | rfl
  · go_enter Try.func30, Try.ntmps30
    go_wp2_with (at_range; refine wpList_range rfl rfl Try.underlying46 hd.m1 rfl ?_; intro it w1 hit hI hx1)
    go_frame
    go_loopg [7] (ps.length) (fun k out wr => ∃ cur left outl g, left.length = k ∧ IterAt wr it r1 (pairV .i64) Value.bool ps cur left ∧ SlO wr 3 1 intE g out outl ∧ (outl ++ sel 0 id left).Perm (sel 0 id ps) ∧ Ext NoB w wr ∧ (∀ q, g = some q → w.heap.size ≤ q ∧ q ≠ it) ∧ it < wr.heap.size)
    case atStart => exact ⟨none, ps, [], none, rfl, hI, SlO.nil _ _ _ _, List.Perm.refl _, hx1, by simp, hI.lt⟩
    case round =>
      obtain ⟨cur, left, outl, g, rfl, hIr, hO, hperm, hext, hg, hit'⟩ := hrel
      have hpl := hperm.length_eq
      rw [List.length_append] at hpl
      have hb1 : (outl.length + 1) * 8 ≤ 140737488355328 := by omega
      have hb2 : outl.length + 1 ≤ maxLen := by unfold maxLen; omega
      go_wp2_with (first
        | (at_next; refine wpList_next rfl rfl hIr rfl (fun h0 => ?_) (fun l1 x l2 w2 hl hI2 hx2 hen => ?_))
        | (at_builtin; go_loud (refine wpList_appendO (ys := [x.1.2]) rfl rfl elem_int intE_len intE_one (hO.keep ((hx2.alloc _).alloc _) (fun q hq => (hg q hq).2)) rfl (SlR.one' (alloc_at' _ _ _ (by simp)) rfl) rfl rfl hb1 hb2 (fun v' w3 g' hO' hx3 hg' => ?_))))
      · subst h0
        refine (sort_calls g _ outl wr hO (by omega)).mono ?_
        rintro e w3 ⟨rfl, hO3, hx3⟩
        go_wp2_with fail
        refine (clip_calls g _ _ w3 hO3).mono ?_
        rintro e w4 ⟨v4, rfl, hO4, rfl⟩
        go_wp2_with fail
        go_ret
        refine ⟨v4, g, rfl, ?_, hext.trans hx3 (fun i hi hgi => absurd hi (Nat.not_lt.2 (hg i hgi).1)), fun q hq => (hg q hq).1⟩
        have hp : outl.Perm (sel 0 id ps) := by simpa [sel] using hperm
        have he := sortI_eq hp
        unfold sideOf
        rw [← he]
        exact hO4
      · have hc : x.1.1 = id := beq_iff_eq.1 (by assumption)
        go_roundg ((l1 ++ l2).length)
        case measure => rw [hl]; simp
        case rel =>
          have hs := sel_mid 0 id l1 l2 x outl (sel 0 id ps) (by rw [hl] at hperm; exact hperm)
          rw [if_pos (show atP 0 x.1 = id from hc), show (1 - 0 : Int) = 1 from rfl, show atP 1 x.1 = x.1.2 from rfl] at hs
          have hne : ¬ g = some r1 := fun e => absurd (hg r1 e).1 (by omega)
          have hne2 : ¬ g = some it := fun e => (hg it e).2 rfl
          have hxa := (hx2.alloc (.cells #[.int .i64 x.1.1, .int .i64 x.1.2] 54)).alloc (.cells #[.int .i64 x.1.2] 3)
          have hlt2 := hx2.size
          refine ⟨some x, l1 ++ l2, outl ++ [x.1.2], g', rfl, ((hI2.keep ((Ext.refl NoB _).alloc _) nb nb).keep ((Ext.refl NoB _).alloc _) nb nb).keep hx3 hne hne2, hO', hs,
            (hext.trans hxa (fun i hi h => absurd hi (by omega))).trans hx3 (fun i hi hgi => absurd hi (Nat.not_lt.2 (hg i hgi).1)), ?_, hx3.lt (by simp; omega)⟩
          intro q hq
          rcases hg' with rfl | rfl
          · exact hg q hq
          · simp only [Option.some.injEq] at hq
            have h1 := hext.size
            simp at hq
            exact ⟨by omega, by omega⟩
      · have hc : ¬ x.1.1 = id := fun e => absurd (beq_iff_eq.2 e) (by simp only [Bool.not_eq_true]; assumption)
        go_roundg ((l1 ++ l2).length)
        case measure => rw [hl]; simp
        case rel =>
          have hs := sel_mid 0 id l1 l2 x outl (sel 0 id ps) (by rw [hl] at hperm; exact hperm)
          rw [if_neg (show ¬ atP 0 x.1 = id from hc), List.append_nil] at hs
          have hlt2 := hx2.size
          exact ⟨some x, l1 ++ l2, outl, g, rfl, hI2.keep ((Ext.refl NoB _).alloc _) nb nb, hO.keep (hx2.alloc _) (fun q hq => (hg q hq).2), hs,
            (hext.trans hx2 (fun i hi h => absurd hi (by omega))).alloc _, hg, by simp; omega⟩
  · go_enter Try.func30, Try.ntmps30
    go_wp2_with (at_range; refine wpList_range rfl rfl Try.underlying46 hd.m1 rfl ?_; intro it w1 hit hI hx1)
    go_frame
    go_loopg [7] (ps.length) (fun k out wr => ∃ cur left outl g, left.length = k ∧ IterAt wr it r1 (pairV .i64) Value.bool ps cur left ∧ SlO wr 3 1 intE g out outl ∧ (outl ++ sel 1 id left).Perm (sel 1 id ps) ∧ Ext NoB w wr ∧ (∀ q, g = some q → w.heap.size ≤ q ∧ q ≠ it) ∧ it < wr.heap.size)
    case atStart => exact ⟨none, ps, [], none, rfl, hI, SlO.nil _ _ _ _, List.Perm.refl _, hx1, by simp, hI.lt⟩
    case round =>
      obtain ⟨cur, left, outl, g, rfl, hIr, hO, hperm, hext, hg, hit'⟩ := hrel
      have hpl := hperm.length_eq
      rw [List.length_append] at hpl
      have hb1 : (outl.length + 1) * 8 ≤ 140737488355328 := by omega
      have hb2 : outl.length + 1 ≤ maxLen := by unfold maxLen; omega
      go_wp2_with (first
        | (at_next; refine wpList_next rfl rfl hIr rfl (fun h0 => ?_) (fun l1 x l2 w2 hl hI2 hx2 hen => ?_))
        | (at_builtin; go_loud (refine wpList_appendO (ys := [x.1.1]) rfl rfl elem_int intE_len intE_one (hO.keep ((hx2.alloc _).alloc _) (fun q hq => (hg q hq).2)) rfl (SlR.one' (alloc_at' _ _ _ (by simp)) rfl) rfl rfl hb1 hb2 (fun v' w3 g' hO' hx3 hg' => ?_))))
      · subst h0
        refine (sort_calls g _ outl wr hO (by omega)).mono ?_
        rintro e w3 ⟨rfl, hO3, hx3⟩
        go_wp2_with fail
        refine (clip_calls g _ _ w3 hO3).mono ?_
        rintro e w4 ⟨v4, rfl, hO4, rfl⟩
        go_wp2_with fail
        go_ret
        refine ⟨v4, g, rfl, ?_, hext.trans hx3 (fun i hi hgi => absurd hi (Nat.not_lt.2 (hg i hgi).1)), fun q hq => (hg q hq).1⟩
        have hp : outl.Perm (sel 1 id ps) := by simpa [sel] using hperm
        have he := sortI_eq hp
        unfold sideOf
        rw [← he]
        exact hO4
      · have hc : x.1.2 = id := beq_iff_eq.1 (by assumption)
        go_roundg ((l1 ++ l2).length)
        case measure => rw [hl]; simp
        case rel =>
          have hs := sel_mid 1 id l1 l2 x outl (sel 1 id ps) (by rw [hl] at hperm; exact hperm)
          rw [if_pos (show atP 1 x.1 = id from hc), show (1 - 1 : Int) = 0 from rfl, show atP 0 x.1 = x.1.1 from rfl] at hs
          have hne : ¬ g = some r1 := fun e => absurd (hg r1 e).1 (by omega)
          have hne2 : ¬ g = some it := fun e => (hg it e).2 rfl
          have hxa := (hx2.alloc (.cells #[.int .i64 x.1.1, .int .i64 x.1.2] 54)).alloc (.cells #[.int .i64 x.1.1] 3)
          have hlt2 := hx2.size
          refine ⟨some x, l1 ++ l2, outl ++ [x.1.1], g', rfl, ((hI2.keep ((Ext.refl NoB _).alloc _) nb nb).keep ((Ext.refl NoB _).alloc _) nb nb).keep hx3 hne hne2, hO', hs,
            (hext.trans hxa (fun i hi h => absurd hi (by omega))).trans hx3 (fun i hi hgi => absurd hi (Nat.not_lt.2 (hg i hgi).1)), ?_, hx3.lt (by simp; omega)⟩
          intro q hq
          rcases hg' with rfl | rfl
          · exact hg q hq
          · simp only [Option.some.injEq] at hq
            have h1 := hext.size
            simp at hq
            exact ⟨by omega, by omega⟩
      · have hc : ¬ x.1.2 = id := fun e => absurd (beq_iff_eq.2 e) (by simp only [Bool.not_eq_true]; assumption)
        go_roundg ((l1 ++ l2).length)
        case measure => rw [hl]; simp
        case rel =>
          have hs := sel_mid 1 id l1 l2 x outl (sel 1 id ps) (by rw [hl] at hperm; exact hperm)
          rw [if_neg (show ¬ atP 1 x.1 = id from hc), List.append_nil] at hs
          have hlt2 := hx2.size
          exact ⟨some x, l1 ++ l2, outl, g, rfl, hI2.keep ((Ext.refl NoB _).alloc _) nb nb, hO.keep (hx2.alloc _) (fun q hq => (hg q hq).2), hs,
            (hext.trans hx2 (fun i hi h => absurd hi (by omega))).alloc _, hg, by simp; omega⟩

theorem waits_calls (b r1 r2 : Nat) (ps : Pairs) (ns : Nums) (id : Int) (w : World) (hd : DagAt w b r1 r2 ps ns) (hn : ps.length ≤ 1000000) :
    Calls Try.prog 19 #[.pointer (some ⟨b, 0, none⟩), .int .i64 id] w fun e w' =>
      ∃ v g, e = .returned v ∧ SlO w' 3 1 intE g v (sideOf 1 id ps) ∧ Ext NoB w w' ∧ (∀ q, g = some q → w.heap.size ≤ q) := by
  go_enter Try.func19, Try.ntmps19
  go_wp2_with fail
  refine (side_calls b r1 r2 ps ns id 1 (.inr rfl) w hd hn).mono ?_
  rintro e w1 ⟨v, g, rfl, hO, hx, hg⟩
  go_wp2_with fail
  go_ret
  exact ⟨v, g, rfl, hO, hx, hg⟩

theorem behind_calls (b r1 r2 : Nat) (ps : Pairs) (ns : Nums) (id : Int) (w : World) (hd : DagAt w b r1 r2 ps ns) (hn : ps.length ≤ 1000000) :
    Calls Try.prog 21 #[.pointer (some ⟨b, 0, none⟩), .int .i64 id] w fun e w' =>
      ∃ v g, e = .returned v ∧ SlO w' 3 1 intE g v (sideOf 0 id ps) ∧ Ext NoB w w' ∧ (∀ q, g = some q → w.heap.size ≤ q) := by
  go_enter Try.func21, Try.ntmps21
  go_wp2_with fail
  refine (side_calls b r1 r2 ps ns id 0 (.inl rfl) w hd hn).mono ?_
  rintro e w1 ⟨v, g, rfl, hO, hx, hg⟩
  go_wp2_with fail
  go_ret
  exact ⟨v, g, rfl, hO, hx, hg⟩

end Go.Proofs.Ytolihdcfhonfgaa
