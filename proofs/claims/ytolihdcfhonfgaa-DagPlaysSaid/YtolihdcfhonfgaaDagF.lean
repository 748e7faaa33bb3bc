/- Walks of package dag: Kill. -/
import Derived.Test.YtolihdcfhonfgaaProg
import Derived.Test.YtolihdcfhonfgaaDagK
namespace Go.Proofs.Ytolihdcfhonfgaa
open Go.RowKit
set_option linter.unusedSimpArgs false
set_option linter.unusedVariables false
attribute [local go_sem] pairV intV

abbrev Gone := List (Int × Bool)
/-- One that waits for one that is gone. -/
def seeStep (s : Gone × List Int) (k : Int) : Gone × List Int := if (mget s.1 k).getD false = true then s else (mput s.1 k true, s.2 ++ [k])
/-- Kill's rounds: at most so many; none: there were more. -/
def killRun : Nat → Pairs → Nums → Gone → List Int → Option (Pairs × Nums × Gone)
  | _, ps, ns, g, [] => some (ps, ns, g)
  | 0, _, _, _, _ :: _ => none
  | f + 1, ps, ns, g, x :: t => if 1000000 < t.length then none else killRun f (ps.filter (fun e => !(e.1.2 == x))) (mdel ns x) ((sideOf 0 x ps).foldl seeStep (g, t)).1 ((sideOf 0 x ps).foldl seeStep (g, t)).2

theorem seeStep_len (l : List Int) : ∀ (s : Gone × List Int), (l.foldl seeStep s).2.length ≤ s.2.length + l.length := by
  induction l with
  | nil => intro s; simp
  | cons k l ih =>
    intro s
    have := ih (seeStep s k)
    rw [List.foldl_cons, List.length_cons]
    have h2 : (seeStep s k).2.length ≤ s.2.length + 1 := by unfold seeStep; split <;> simp
    omega

theorem zeroBool (w : World) : (zeroValue 4).run Try.prog w = .ok (Value.bool false) w := by kernel_rfl

set_option maxHeartbeats 2000000 in
theorem kill_calls (b r1 r2 : Nat) (ps : Pairs) (ns : Nums) (id : Int) (w : World) (hd : DagAt w b r1 r2 ps ns) (hn : ps.length ≤ 1000000) (f : Nat) (psF : Pairs) (nsF : Nums) (gF : Gone) (hrun : killRun f ps ns [(id, true)] [id] = some (psF, nsF, gF))
    (hgl : gF.length ≤ 2000000) (hgw : ∀ p ∈ gF, (Lit.int .i64 p.1).wf = true) :
    Calls Try.prog 14 #[.pointer (some ⟨b, 0, none⟩), .int .i64 id] w fun e w' =>
      ∃ v g, e = .returned v ∧ SlO w' 3 1 intE g v (sortI ((mdel gF id).map (·.1))) ∧ DagAt w' b r1 r2 psF nsF ∧ Ext (fun k => k = r1 ∨ k = r2) w w' ∧ (∀ q, g = some q → w.heap.size ≤ q) := by
  have hr1 := hd.m1.lt
  have hr2 := hd.m2.lt
  have hb := lt_of_block hd.blk
  have hmm := @run_makeMap Try.prog
  have hO0 : SlO (w.alloc (.cells #[.int .i64 id] 3)) 3 1 intE (some w.heap.size) (.slice (some ⟨w.heap.size, 0, none⟩) 1 1) [id] := SlO.made (xs := [id]) (alloc_at w _) rfl intE_len (by unfold maxLen; simp)
  have hG0 : MapAt ((w.alloc (.cells #[.int .i64 id] 3)).alloc (.map #[] 0)) (w.heap.size + 1) (intV .i64) Value.bool [] := by
    have := MapAt.made (ek := intV .i64) (ev := Value.bool) (w.alloc (.cells #[.int .i64 id] 3))
    simpa using this
  have hE0 : Ext NoB (w.alloc (.cells #[.int .i64 id] 3)) ((w.alloc (.cells #[.int .i64 id] 3)).alloc (.map #[] 0)) := (Ext.refl _ _).alloc _
  have hE1 : Ext NoB w ((w.alloc (.cells #[.int .i64 id] 3)).alloc (.map #[] 0)) := ((Ext.refl _ _).alloc _).alloc _
  have hrun' := Lib.hid hrun
  clear hrun
  go_enter Try.func14, Try.ntmps14
  go_wp2_with ((with_reducible show wpList _ _ _ (⟨_, .insert _ _ _ _, _, _, _, _⟩ :: _) _ _); refine wpList_mapIns (ek := intV .i64) (ev := Value.bool) rfl rfl key_int Try.underlying57 hG0 rfl id rfl true rfl (fun w2 hG hxG => ?_))
  have hX2 : Ext NoB w w2 := hE1.trans hxG (fun i hi e => by omega)
  have hd2 := hd.keep hX2 nb nb nb
  have hO2 := (hO0.keep hE0 (fun _ _ => nb)).keep hxG (fun q hq e => by cases hq; omega)
  have hG2 : MapAt w2 (w.heap.size + 1) (intV .i64) Value.bool [(id, true)] := hG
  obtain ⟨rg, hrg⟩ : ∃ rg, rg = w.heap.size + 1 := ⟨_, rfl⟩
  have hrgl : w.heap.size ≤ rg := by omega
  have hrgn : w.heap.size ≠ rg := by omega
  rw [← hrg] at hG2 ⊢
  clear hrg hG hxG hE0 hE1 hO0 hG0
  go_loopg [5] f (fun k todo wo => ∃ ps1 ns1 g1 t1 gt, Hid (killRun k ps1 ns1 g1 t1 = some (psF, nsF, gF)) ∧ DagAt wo b r1 r2 ps1 ns1 ∧ MapAt wo rg (intV .i64) Value.bool g1 ∧ SlO wo 3 1 intE gt todo t1 ∧ Ext (fun k => k = r1 ∨ k = r2) w wo ∧ (∀ q, gt = some q → w.heap.size ≤ q ∧ q ≠ rg) ∧ ps1.length ≤ 1000000)
  case atStart => exact ⟨ps, ns, [(id, true)], [id], some w.heap.size, hrun', hd2, hG2, hO2, hX2.mono (fun _ _ h => h.elim), fun q hq => by cases hq; exact ⟨Nat.le_refl _, hrgn⟩, hn⟩
  case round =>
    obtain ⟨wo, rfl⟩ : ∃ wo : World, wo = wr := ⟨_, rfl⟩
    obtain ⟨ps1, ns1, g1, t1, gt, hk, hdo, hGo, hO, hext, hgt, hn1⟩ := hrel
    cases t1 with
    | nil =>
      obtain ⟨A, c, b0, o0, rfl, hs, _⟩ := hO.read
      have hf : Hid (ps1 = psF ∧ ns1 = nsF ∧ g1 = gF) := by
        have := hk.out
        unfold killRun at this
        show _ ∧ _
        cases gk <;> simpa using this
      go_wp2_with (at_delete; refine wpList_mapDel (ek := intV .i64) (ev := Value.bool) rfl rfl rfl key_int Try.underlying57 hGo rfl id rfl (fun w3 hm3 hx3 => ?_))
      have hwfd : ∀ p ∈ mdel g1 id, (Lit.int .i64 p.1).wf = true := fun p hp => hgw p (by rw [← hf.out.2.2]; exact (List.mem_filter.1 hp).1)
      have hlen : (mdel g1 id).length ≤ 2000000 := Nat.le_trans (List.length_filter_le _ _) (by rw [hf.out.2.2]; exact hgl)
      refine (keys_calls rg w3).mono ?_
      rintro e w4 ⟨rfl, rfl⟩
      have hE4 : Ext NoB w3 (w3.alloc (.cells #[.map (some rg)] 57)) := (Ext.refl _ _).alloc _
      go_wp2_with fail
      refine (sorted_calls rg w3.heap.size (mdel g1 id) _ (hm3.keep hE4 nb) (one_at _ _ _) hwfd hlen).mono ?_
      rintro e w5 ⟨v5, g5, rfl, hO5, hx5, hg5⟩
      go_wp2_with fail
      refine (clip_calls g5 _ _ w5 hO5).mono ?_
      rintro e w6 ⟨v6, rfl, hO6, rfl⟩
      go_wp2_with fail
      go_ret
      have hx36 := hE4.trans hx5 (fun _ _ h => h)
      have hxo6 := hx3.trans hx36 (fun _ _ h => h.elim)
      obtain ⟨rfl, rfl, rfl⟩ := hf.out
      refine ⟨v6, g5, rfl, hO6, hdo.keep hxo6 (by omega) (by omega) (by omega), hext.trans hxo6 (fun i hi e => by omega), fun q hq => ?_⟩
      have h1 := hg5 q hq
      have h2 := hx3.size
      have h3 := hext.size
      simp at h1
      omega
    | cons x t =>
      rcases hO.get with rfl | ⟨bq, oq, cq, rfl⟩
      · rcases hO with ⟨_, h, _⟩ | ⟨_, _, _, _, _, h, _⟩ <;> cases h
      · have hcell : wo.cell? ⟨bq, oq, none⟩ = some (.int .i64 x) := by
          have := hO.row (A := none) rfl 0 (.int .i64 x) rfl
          simpa using this
        have hTa : cq = 1 → SlO wo 3 1 intE gt (.slice (some ⟨bq, oq, none⟩) t.length 0) t := fun h => by
          have := hO.tail intE_len ⟨bq, oq, none⟩ (by rw [if_pos h])
          rwa [h] at this
        have hTb : ¬ cq = 1 → SlO wo 3 1 intE gt (.slice (some ⟨bq, oq + 1, none⟩) t.length (cq - 1)) t := fun h => hO.tail intE_len ⟨bq, oq + 1, none⟩ (by rw [if_neg h])
        have hbq : gt = some bq := by
          rcases hO with ⟨h, _⟩ | ⟨_, _, _, _, hg, h, _⟩
          · cases h
          · simp only [Value.slice.injEq, Option.some.injEq, Addr.mk.injEq] at h
            rw [hg, h.1.1]
        have hcq : t.length + 1 ≤ cq ∧ cq ≤ maxLen := by
          rcases hO with ⟨h, _⟩ | ⟨_, _, _, _, hg, h, _, h1, h2, _⟩
          · cases h
          · simp only [Value.slice.injEq] at h
            obtain ⟨_, _, rfl⟩ := h
            exact ⟨by simpa using h1, h2⟩
        obtain ⟨hcq1, hcq2⟩ := hcq
        unfold maxLen at hcq2
        simp only [List.length_cons] at *
        have hkr : Hid (killRun gk ps1 ns1 g1 (x :: t) = some (psF, nsF, gF)) := hk
        have htl : t.length ≤ 1000000 := by
          have := hk.out
          cases gk with
          | zero => unfold killRun at this; cases this
          | succ n =>
            unfold killRun at this
            split at this
            · cases this
            · omega
        clear hk
        by_cases hc1 : cq = 1
        all_goals
          go_wp2_with fail
          refine (behind_calls b r1 r2 ps1 ns1 x wo hdo hn1).mono ?_
          rintro e w3 ⟨vl, gl, rfl, hOl, hx3, hgl3⟩
          obtain ⟨A, c, b0, o0, rfl, hs, hgb⟩ := hOl.read
          have hd3 := hdo.keep hx3 nb nb nb
          have hG3 := hGo.keep hx3 nb
          have hT3a := fun h => (hTa h).keep hx3 (fun _ _ => nb)
          have hT3b := fun h => (hTb h).keep hx3 (fun _ _ => nb)
          have hll := sideOf_len 0 x ps1
          have hsl := hs.le
          have hsm := hs.max
          have hrl := hGo.lt
          unfold maxLen at hsm
          have hsb : 0 < (sideOf 0 x ps1).length → ¬ (b0 = rg ∨ gt = some b0) := fun h0 h => by
            have h1 := hgl3 b0 (hgb h0)
            rcases h with h | h
            · omega
            · rw [hbq] at h; cases h
              have := hO.lt hbq
              omega
          have hlid : Hid (sideOf 0 x ps1 = sideOf 0 x ps1) := rfl
          generalize hlg : sideOf 0 x ps1 = l at hs hOl hgb hll hsl hsb ⊢
          have hlg' := Lib.hid hlg
          clear hlg hlid hTa hTb hgl3 hcell hOl hgb
          go_wp2_with fail
          go_loopw [5, 27] (fun out i wr => ∃ (k : Nat) (st : Gone × List Int) (g : Option Nat), k ≤ l.length ∧ i = .int .i64 k ∧ Hid ((l.take k).foldl seeStep (g1, t) = st) ∧ MapAt wr rg (intV .i64) Value.bool st.1 ∧ SlO wr 3 1 intE g out st.2 ∧ Ext (fun k => k = rg ∨ gt = some k) w3 wr ∧ (∀ q, g = some q → g = gt ∨ w3.heap.size ≤ q) ∧ st.2.length ≤ t.length + k) (fun _ i _ => l.length - (intOf i).toNat)
          case atStart => exact ⟨0, _, gt, Nat.zero_le _, rfl, rfl, hG3, (by first | exact hT3a hc1 | exact hT3b hc1), Ext.refl _ _, fun q hq => .inl rfl, Nat.le_refl _⟩
          case round =>
            obtain ⟨k, ⟨g2, t2⟩, gg, hk, rfl, hst, hGk, hOk, hextk, hgg, htk⟩ := hrel
            simp only at hGk hOk htk
            by_cases hlt : k < l.length
            · obtain rfl := hs.addr (by omega)
              have hcell := (hs.keep hextk (fun h => hsb h)).intCell k hlt
              have hstep : Hid ((l.take (k + 1)).foldl seeStep (g1, t) = seeStep (g2, t2) l[k]) := by
                show _ = _
                rw [List.take_succ_eq_append_getElem hlt, List.foldl_append, hst.out]
                rfl
              generalize l[k] = y at hcell hstep
              have hl2 := hGk.run_lookup key_int Try.underlying57 (z := false) zeroBool y false
              simp only [intV, Bool.false_eq_true, if_false] at hl2
              cases hgy : (mget g2 y).getD false with
              | true =>
                have hgy' := Lib.hid hgy
                rw [hgy] at hl2
                clear hgy
                go_wp2_with fail
                go_roundw
                case rel =>
                  refine ⟨k + 1, (g2, t2), gg, by omega, by go_num, ?_, hGk, hOk, hextk, hgg, by simp only; omega⟩
                  show _ = _
                  rw [hstep.out]
                  unfold seeStep
                  rw [if_pos hgy'.out]
                case measure => simp [intOf]; omega
              | false =>
                have hgy' := Lib.hid hgy
                rw [hgy] at hl2
                clear hgy
                have hb1 : (t2.length + 1) * 8 ≤ 140737488355328 := by omega
                have hb2 : t2.length + 1 ≤ maxLen := by unfold maxLen; omega
                have hggr : ∀ q, gg = some q → q ≠ rg := fun q hq e => by
                  rcases hgg q hq with h | h
                  · exact (hgt q (h ▸ hq)).2 e
                  · have := hx3.size; omega
                go_wp2_with (first
                  | (at_mapUpdate; go_loud (refine wpList_mapPut (ek := intV .i64) (ev := Value.bool) rfl rfl key_int Try.underlying57 hGk rfl y rfl true rfl (fun w4 hm4 hx4 => ?_)))
                  | (at_builtin; go_loud (refine wpList_appendO (ys := [y]) rfl rfl elem_int intE_len intE_one (hOk.keep (hx4.alloc _) hggr) rfl (SlR.one' (alloc_at' _ _ _ (by simp)) rfl) rfl rfl hb1 hb2 (fun v' w5 g' hO' hx5 hg' => ?_))))
                go_roundw
                case rel =>
                  have hx45 := hx4.alloc (.cells #[.int .i64 y] 3)
                  refine ⟨k + 1, (mput g2 y true, t2 ++ [y]), g', by omega, by go_num, ?_, (hm4.keep ((Ext.refl NoB _).alloc _) nb).keep hx5 (fun e => hggr rg e rfl), hO', (hextk.trans hx45 (fun _ _ h => .inl h)).trans hx5 ?_, ?_, by simp; omega⟩
                  · show _ = _
                    rw [hstep.out]
                    unfold seeStep
                    rw [if_neg (by rw [hgy'.out]; exact Bool.false_ne_true)]
                  · intro i hi e
                    rcases hgg i e with h | h
                    · exact .inr (h ▸ e)
                    · omega
                  · intro q hq
                    rcases hg' with rfl | rfl
                    · exact hgg q hq
                    · refine .inr ?_
                      simp only [Option.some.injEq] at hq
                      have h1 := hextk.size
                      have h2 := hx4.size
                      simp at hq
                      omega
                case measure => simp [intOf]; omega
            · obtain rfl : k = l.length := by omega
              rw [List.take_length] at hst
              have hgb' : ∀ i, i < w.heap.size → ¬ (i = rg ∨ gt = some i) := fun i hi h => by
                rcases h with h | h
                · omega
                · have := (hgt i h).1; omega
              have hdk := hd3.keep hextk (hgb' b hb) (hgb' r1 hr1) (hgb' r2 hr2)
              go_wp2_with fail
              refine (leave_calls b r1 r2 ps1 ns1 x wr hdk).mono ?_
              rintro e w5 ⟨rfl, hd5, hx5⟩
              go_wp2_with fail
              have hsz1 := hext.size
              have hsz2 := hx3.size
              have hsz3 := hextk.size
              have hggq : ∀ q, gg = some q → w.heap.size ≤ q ∧ q ≠ rg := fun q hq => by
                rcases hgg q hq with h | h
                · exact hgt q (h ▸ hq)
                · omega
              have hnx : ∃ n, n < gk ∧ killRun n (ps1.filter (fun e => !(e.1.2 == x))) (mdel ns1 x) g2 t2 = some (psF, nsF, gF) := by
                have := hkr.out
                cases gk with
                | zero => unfold killRun at this; cases this
                | succ n =>
                  unfold killRun at this
                  rw [if_neg (by omega), hlg'.out, hst.out] at this
                  exact ⟨n, Nat.lt_succ_self _, this⟩
              obtain ⟨n, hn1', hn2'⟩ := hnx
              go_roundg n
              case measure => exact hn1'
              case rel =>
                refine ⟨ps1.filter (fun e => !(e.1.2 == x)), mdel ns1 x, g2, t2, gg, hn2', hd5, hGk.keep hx5 (by omega), hOk.keep hx5 (fun q hq => by have := (hggq q hq).1; omega), ?_, hggq, Nat.le_trans (List.length_filter_le _ _) hn1⟩
                exact ((hext.trans hx3 (fun _ _ h => h.elim)).trans hextk (fun i hi h => absurd h (hgb' i hi))).trans hx5 (fun _ _ h => h)

end Go.Proofs.Ytolihdcfhonfgaa
