/- Walks of package dag: Done. -/
import Derived.Test.YtolihdcfhonfgaaProg
import Derived.Test.YtolihdcfhonfgaaDagD
namespace Go.Proofs.Ytolihdcfhonfgaa
open Go.RowKit
set_option linter.unusedSimpArgs false
set_option linter.unusedVariables false
attribute [local go_sem] pairV intV

def doneStep (id : Int) (s : Pairs × Nums × List Int) (x : Int) : Pairs × Nums × List Int :=
  let n := wrap64 ((mget s.2.1 x).getD 0 - 1)
  if n = 0 then ((mdel s.1 (id, x)).filter (fun e => !(e.1.2 == x)), mdel (mput s.2.1 x n) x, s.2.2 ++ [x])
  else (mdel s.1 (id, x), mput s.2.1 x n, s.2.2)
def dagDone (ps : Pairs) (ns : Nums) (id : Int) : Pairs × Nums × List Int := (sideOf 0 id ps).foldl (doneStep id) (ps, ns, [])

theorem sideOf_len (at' id : Int) (ps : Pairs) : (sideOf at' id ps).length ≤ ps.length := by
  unfold sideOf; rw [sortI_length]; exact sel_len _ _ _

set_option maxHeartbeats 1000000 in
theorem done_calls (b r1 r2 : Nat) (ps : Pairs) (ns : Nums) (id : Int) (w : World) (hd : DagAt w b r1 r2 ps ns) (hn : ps.length ≤ 1000000) :
    Calls Try.prog 10 #[.pointer (some ⟨b, 0, none⟩), .int .i64 id] w fun e w' =>
      ∃ v g, e = .returned v ∧ SlO w' 3 1 intE g v (dagDone ps ns id).2.2 ∧ DagAt w' b r1 r2 (dagDone ps ns id).1 (dagDone ps ns id).2.1 ∧ Ext (fun k => k = r1 ∨ k = r2) w w' ∧ (∀ q, g = some q → w.heap.size ≤ q) := by
  have hr1 := hd.m1.lt
  have hr2 := hd.m2.lt
  have hb := lt_of_block hd.blk
  have hll := sideOf_len 0 id ps
  have hfin : Hid (dagDone ps ns id = (sideOf 0 id ps).foldl (doneStep id) (ps, ns, [])) := rfl
  go_enter Try.func10, Try.ntmps10
  go_wp2_with fail
  refine (behind_calls b r1 r2 ps ns id w hd hn).mono ?_
  rintro e w1 ⟨v, g0, rfl, hO0, hx1, hg0⟩
  obtain ⟨A, c, b0, o0, rfl, hs, hgb⟩ := hO0.read
  have hd1 := hd.keep hx1 nb nb nb
  have hlt1 := hx1.size
  have hsb : 0 < (sideOf 0 id ps).length → ¬ (b0 = r1 ∨ b0 = r2) := fun h0 h => by
    have := hg0 b0 (hgb h0)
    rcases h with h | h <;> omega
  have hsl := hs.le
  have hsm := hs.max
  unfold maxLen at hsm
  generalize sideOf 0 id ps = l at *
  clear hO0 hgb hg0
  go_wp2_with fail
  go_loopw [5, 12] (fun out i wr => ∃ (k : Nat) (st : Pairs × Nums × List Int) (g : Option Nat), k ≤ l.length ∧ i = .int .i64 k ∧ Hid ((l.take k).foldl (doneStep id) (ps, ns, []) = st) ∧ DagAt wr b r1 r2 st.1 st.2.1 ∧ SlO wr 3 1 intE g out st.2.2 ∧ Ext (fun k => k = r1 ∨ k = r2) w1 wr ∧ (∀ q, g = some q → w1.heap.size ≤ q) ∧ st.2.2.length ≤ k) (fun _ i _ => l.length - (intOf i).toNat)
  case atStart => exact ⟨0, _, none, Nat.zero_le _, rfl, rfl, hd1, SlO.nil _ _ _ _, Ext.refl _ _, by simp, Nat.zero_le _⟩
  case round =>
    obtain ⟨k, ⟨ps1, ns1, outl⟩, g, hk, rfl, hst, hdk, hO, hext, hg, hol⟩ := hrel
    simp only at hdk hO hol
    by_cases hlt : k < l.length
    · obtain rfl := hs.addr (by omega)
      have hcell := (hs.keep hext hsb).intCell k hlt
      have c0 : wr.cell? ⟨b, 0, none⟩ = some (.map (some r1)) := by simp [World.cell?, hdk.blk]
      have c1 : wr.cell? ⟨b, 1, none⟩ = some (.map (some r2)) := by simp [World.cell?, hdk.blk]
      have hstep : Hid ((l.take (k + 1)).foldl (doneStep id) (ps, ns, []) = doneStep id (ps1, ns1, outl) l[k]) := by
        show _ = _
        rw [List.take_succ_eq_append_getElem hlt, List.foldl_append, hst.out]
        rfl
      generalize l[k] = x at hcell hstep
      clear hst
      go_wp2_with (first
        | (at_delete; refine wpList_mapDel (ek := pairV .i64) (ev := Value.bool) rfl rfl rfl key_pair Try.underlying46 hdk.m1 rfl (id, x) rfl (fun w2 hm2 hx2 => ?_)
           have hd2 : DagAt w2 b r1 r2 (mdel ps1 (id, x)) ns1 := ⟨hx2.keep hdk.blk (hdk.m1.ne_cell c0), hm2, hdk.m2.keep hx2 (Ne.symm hdk.ne), hdk.ne⟩
           have d1 := hx2.cell c1 (hdk.m1.ne_cell c1)
           have hO2 := hO.keep hx2 (fun q hq e => absurd (hg q hq) (by omega))
           have hext2 := hext.trans hx2 (F := fun k => k = r1 ∨ k = r2) (fun _ _ h => .inl h)
           have hl2 := hd2.m2.run_lookup key_int Try.underlying47 (z := 0) zero_int x false
           simp only [intV, Bool.false_eq_true, if_false] at hl2
           clear hdk hO hext hx2 hm2 c0 c1 hcell)
        | (at_mapUpdate; go_loud (refine wpList_mapPut (ek := intV .i64) (ev := intV .i64) rfl rfl key_int Try.underlying47 hd2.m2 rfl x rfl (wrap64 ((mget ns1 x).getD 0 - 1)) rfl (fun w3 hm3 hx3 => ?_))
           have hd3 : DagAt w3 b r1 r2 (mdel ps1 (id, x)) (mput ns1 x (wrap64 ((mget ns1 x).getD 0 - 1))) := ⟨hx3.keep hd2.blk (hd2.m2.ne_cell d1), hd2.m1.keep hx3 hd2.ne, hm3, hd2.ne⟩
           have e1 := hx3.cell d1 (hd2.m2.ne_cell d1)
           have hO3 := hO2.keep hx3 (fun q hq e => absurd (hg q hq) (by omega))
           have hext3 := hext2.trans hx3 (F := fun k => k = r1 ∨ k = r2) (fun _ _ h => .inr h)
           have hl3 := hd3.m2.run_lookup key_int Try.underlying47 (z := 0) zero_int x false
           rw [mget_mput, if_pos rfl] at hl3
           simp only [intV, Bool.false_eq_true, if_false, Option.getD_some] at hl3
           clear hl2 hd2 hO2 hext2 hx3 hm3 d1
           generalize hnn : wrap64 ((mget ns1 x).getD 0 - 1) = n at *
           have hnn' := Lib.hid hnn
           clear hnn
           by_cases hz : n = 0))
      · subst hz
        go_wp2_with fail
        refine (leave_calls b r1 r2 _ _ x w3 hd3).mono ?_
        rintro e w4 ⟨rfl, hd4, hx4⟩
        have hO4 := hO3.keep hx4 (fun q hq e => by have := hg q hq; rcases e with e | e <;> omega)
        have hext4 := hext3.trans hx4 (F := fun k => k = r1 ∨ k = r2) (fun _ _ h => h)
        have hb1 : (outl.length + 1) * 8 ≤ 140737488355328 := by omega
        have hb2 : outl.length + 1 ≤ maxLen := by unfold maxLen; omega
        clear hl3 hO3 hext3 hx4 e1
        go_wp2_with (at_builtin; go_loud (refine wpList_appendO (ys := [x]) rfl rfl elem_int intE_len intE_one (hO4.keep ((Ext.refl NoB _).alloc _) (fun _ _ => nb)) rfl (SlR.one' (alloc_at' _ _ _ (by simp)) rfl) rfl rfl hb1 hb2 (fun v' w5 g' hO' hx5 hg' => ?_)))
        have hw5 := hd4.keep ((Ext.refl NoB w4).alloc (.cells #[.int .i64 x] 3)) nb nb nb
        go_roundw
        case rel =>
          refine ⟨k + 1, doneStep id (ps1, ns1, outl) x, g', by omega, by go_num, hstep, ?_, ?_, ?_, ?_, ?_⟩
          all_goals
            have hds : doneStep id (ps1, ns1, outl) x = ((mdel ps1 (id, x)).filter (fun e => !(e.1.2 == x)), mdel (mput ns1 x 0) x, outl ++ [x]) := by
              unfold doneStep
              simp only [hnn'.out, if_true]
            try rw [hds]
          · exact hw5.keep hx5 (fun e => absurd (hg b e) (by omega)) (fun e => absurd (hg r1 e) (by omega)) (fun e => absurd (hg r2 e) (by omega))
          · exact hO'
          · exact (hext4.alloc _).trans hx5 (fun i hi e => absurd (hg i e) (by omega))
          · intro q hq
            rcases hg' with rfl | rfl
            · exact hg q hq
            · simp only [Option.some.injEq] at hq
              have h1 := hext4.size
              simp at hq
              omega
          · simp; omega
        case measure => simp [intOf]; omega
      · go_roundw
        case rel =>
          refine ⟨k + 1, doneStep id (ps1, ns1, outl) x, g, by omega, by go_num, hstep, ?_, ?_, hext3, hg, ?_⟩
          all_goals
            have hds : doneStep id (ps1, ns1, outl) x = (mdel ps1 (id, x), mput ns1 x n, outl) := by
              unfold doneStep
              simp only [hnn'.out, if_neg hz]
            try rw [hds]
          · exact hd3
          · exact hO3
          · simp only; omega
        case measure => simp [intOf]; omega
    · obtain rfl : k = l.length := by omega
      rw [List.take_length] at hst
      go_wp2_with fail
      refine (clip_calls g _ _ wr hO).mono ?_
      rintro e w4 ⟨v4, rfl, hO4, rfl⟩
      go_wp2_with fail
      go_ret
      rw [hfin.out, hst.out]
      exact ⟨v4, g, rfl, hO4, hdk, (hx1.mono (fun _ _ h => h.elim)).trans hext (fun _ _ h => h), fun q hq => by have := hg q hq; omega⟩

end Go.Proofs.Ytolihdcfhonfgaa
