/- Walks of package dag: Add. -/
import Derived.Test.YtolihdcfhonfgaaProg
import Derived.Test.YtolihdcfhonfgaaDagA
import Derived.StillTailTactics
namespace Go.Proofs.Ytolihdcfhonfgaa
open Go.RowKit
set_option linter.unusedSimpArgs false
set_option linter.unusedVariables false

/-! ### Add -/

/-- The object: a pointer's block, its two maps. -/
structure DagAt (w : World) (b r1 r2 : Nat) (ps : List ((Int × Int) × Bool)) (ns : List (Int × Int)) : Prop where
  blk : w.heap[b]? = some (.cells #[.map (some r1), .map (some r2)] 49 (0, 0))
  m1 : MapAt w r1 (pairV .i64) Value.bool ps
  m2 : MapAt w r2 (intV .i64) (intV .i64) ns
  ne : r1 ≠ r2

theorem DagAt.keep {F : Nat → Prop} {w w' : World} {b r1 r2 : Nat} {ps : List ((Int × Int) × Bool)} {ns : List (Int × Int)} (h : DagAt w b r1 r2 ps ns) (x : Ext F w w') (h0 : ¬ F b) (h1 : ¬ F r1) (h2 : ¬ F r2) : DagAt w' b r1 r2 ps ns :=
  ⟨x.keep h.blk h0, h.m1.keep x h1, h.m2.keep x h2, h.ne⟩

theorem key_int : KeyEnc Try.prog 3 (intV .i64) := int_key Try.underlying3
theorem key_pair : KeyEnc Try.prog 54 (pairV .i64) := pair_key Try.underlying54 Try.underlying3 (by kernel_rfl)
theorem zero_bool (w : World) : (zeroValue 4).run Try.prog w = .ok (.bool false) w := by kernel_rfl
theorem zero_int (w : World) : (zeroValue 3).run Try.prog w = .ok (intV .i64 0) w := by kernel_rfl

abbrev Pairs := List ((Int × Int) × Bool)
abbrev Nums := List (Int × Int)

/-- One pred is put down. -/
def addStep (id : Int) (s : Pairs × Nums) (p : Int) : Pairs × Nums :=
  if (mget s.1 (p, id)).getD false then s else (mput s.1 (p, id) true, mput s.2 id (IntKind.i64.wrap ((mget s.2 id).getD 0 + 1)))
def dagAdd (s : Pairs × Nums) (id : Int) (preds : List Int) : Int × Int × (Pairs × Nums) :=
  if id < 1 ∨ preds.any (addBad id) = true then (0, 1, s)
  else if (mget s.2 id).isSome = true then (0, 9, s)
  else let s' := preds.foldl (addStep id) s; ((mget s'.2 id).getD 0, 0, s')

theorem add1_plain : Plainly Try.prog 24 := plainly_of Try.func24 (by kernel_rfl) (by kernel_rfl)

theorem add_pred (id : Int) (b : Nat) (w : World) (hc : w.cell? ⟨b, 0, none⟩ = some (.int .i64 id)) : Pred1 24 #[.pointer (some ⟨b, 0, none⟩)] (addBad id) w :=
  ⟨add1_plain, fun x w' hx => (add1_calls x id b w' (hx.cell hc nb)).mono fun e w'' ⟨he, hw⟩ => ⟨he, by subst hw; exact Ext.refl _ _⟩⟩

theorem add_calls (b r1 r2 : Nat) (ps : Pairs) (ns : Nums) (id : Int) (A : Option Addr) (c sb so : Nat) (preds : List Int) (w : World) (hd : DagAt w b r1 r2 ps ns) (hs : SlR w 1 intE A c sb so preds) :
    Calls Try.prog 9 #[.pointer (some ⟨b, 0, none⟩), .int .i64 id, .slice A preds.length c] w fun e w' =>
      e = .returned (.tuple #[.int .i64 (dagAdd (ps, ns) id preds).1, .int .i64 (dagAdd (ps, ns) id preds).2.1]) ∧ DagAt w' b r1 r2 (dagAdd (ps, ns) id preds).2.2.1 (dagAdd (ps, ns) id preds).2.2.2 ∧ Ext (fun k => k = r1 ∨ k = r2) w w' := by
  by_cases h1 : id < 1
  · have hv : Hid (dagAdd (ps, ns) id preds = (0, 1, (ps, ns))) := by show _ = _; unfold dagAdd; rw [if_pos (Or.inl h1)]
    have hE : Ext NoB w (w.alloc (.cells #[.int .i64 id] 3)) := (Ext.refl _ _).alloc _
    go_enter Try.func9, Try.ntmps9
    go_wp2_with fail
    go_ret2
    rw [hv.out]
    exact ⟨rfl, hd.keep hE nb nb nb, hE.mono (fun _ _ h => h.elim)⟩
  · have h1' : decide (id < 1) = false := by simpa using h1
    have hB : (w.alloc (.cells #[.int .i64 id] 3)).cell? ⟨w.heap.size, 0, none⟩ = some (.int .i64 id) := one_at _ _ _
    have hE : Ext NoB w (w.alloc (.cells #[.int .i64 id] 3)) := (Ext.refl _ _).alloc _
    cases hb : preds.any (addBad id) with
    | true =>
      have hv : Hid (dagAdd (ps, ns) id preds = (0, 1, (ps, ns))) := by show _ = _; unfold dagAdd; rw [if_pos (Or.inr hb)]
      have hb' := Lib.hid hb
      clear hb
      go_enter Try.func9, Try.ntmps9
      go_wp2_with fail
      refine (containsFunc_int _ _ _ A c sb so preds _ (hs.keep hE nb1) (add_pred id _ _ hB)).mono ?_
      rintro e w1 ⟨rfl, hx⟩
      rw [hb'.out]
      go_wp2_with fail
      go_ret2
      rw [hv.out]
      exact ⟨rfl, hd.keep (hE.trans hx (fun _ _ h => h)) nb nb nb, (hE.trans hx (fun _ _ h => h)).mono (fun _ _ h => h.elim)⟩
    | false =>
      have hb' := Lib.hid hb
      clear hb
      cases hm : (mget ns id).isSome with
      | true =>
        have hv : Hid (dagAdd (ps, ns) id preds = (0, 9, (ps, ns))) := by show _ = _; unfold dagAdd; rw [if_neg (by simp [hb'.out, h1]), if_pos hm]
        have hm' := Lib.hid hm
        clear hm
        go_enter Try.func9, Try.ntmps9
        go_wp2_with fail
        refine (containsFunc_int _ _ _ A c sb so preds _ (hs.keep hE nb1) (add_pred id _ _ hB)).mono ?_
        rintro e w1 ⟨rfl, hx⟩
        rw [hb'.out]
        have hd1 := hd.keep (hE.trans hx (fun _ _ h => h)) nb nb nb
        have hc0 : w1.cell? ⟨b, 1, none⟩ = some (.map (some r2)) := by simp [World.cell?, hd1.blk]
        have hc1 : w1.cell? ⟨w.heap.size, 0, none⟩ = some (.int .i64 id) := hx.cell hB nb
        have hl : ∀ n, (Instr.lookup 47 (.map (some r2)) (.int .i64 id) true).run Try.prog (w1.drewN n) = .ok (.tuple #[.int .i64 ((mget ns id).getD 0), .bool true]) (w1.drewN n) := fun n => by
          have := (hd1.m2.of_block (w' := w1.drewN n) rfl).run_lookup key_int Try.underlying47 (z := 0) zero_int id true
          rw [hm'.out] at this
          exact this
        clear hd
        go_wp2_with fail
        go_quiet (fail)
        all_goals
          go_wp2_with fail
          go_ret2
          rw [hv.out]
          exact ⟨rfl, (hd1.keep ((Ext.refl NoB _).drewN _) nb nb nb), ((hE.trans hx (fun _ _ h => h)).drewN _).mono (fun _ _ h => h.elim)⟩
      | false =>
        have hm' := Lib.hid hm
        clear hm
        go_enter Try.func9, Try.ntmps9
        go_wp2_with fail
        refine (containsFunc_int _ _ _ A c sb so preds _ (hs.keep hE nb1) (add_pred id _ _ hB)).mono ?_
        rintro e w1 ⟨rfl, hx⟩
        rw [hb'.out]
        have hd1 := hd.keep (hE.trans hx (fun _ _ h => h)) nb nb nb
        have hc0 : w1.cell? ⟨b, 1, none⟩ = some (.map (some r2)) := by simp [World.cell?, hd1.blk]
        have hc1 : w1.cell? ⟨w.heap.size, 0, none⟩ = some (.int .i64 id) := hx.cell hB nb
        have hl : ∀ n, (Instr.lookup 47 (.map (some r2)) (.int .i64 id) true).run Try.prog (w1.drewN n) = .ok (.tuple #[.int .i64 ((mget ns id).getD 0), .bool false]) (w1.drewN n) := fun n => by
          have := (hd1.m2.of_block (w' := w1.drewN n) rfl).run_lookup key_int Try.underlying47 (z := 0) zero_int id true
          rw [hm'.out] at this
          exact this
        have hE1 := hE.trans hx (fun _ _ h => h)
        have hs1 := hs.keep hE1 nb1
        have hlt : w.heap.size < w1.heap.size := hx.lt (by simp)
        have hsb : 0 < preds.length → ¬ (sb = r1 ∨ sb = r2) := fun h0 h => h.elim (hs.ne_map intE_len Nat.one_pos hd.m1 h0) (hs.ne_map intE_len Nat.one_pos hd.m2 h0)
        have hr1 := hd.m1.lt
        have hr2 := hd.m2.lt
        have hm := hs.max
        have hl' := hs.le
        unfold maxLen at hm
        clear hd hE hx
        go_wp2_with fail
        go_quiet (fail)
        go_wp2_with fail
        go_loopw [32] (fun i wr => ∃ k : Nat, k ≤ preds.length ∧ i = .int .i64 k ∧ DagAt wr b r1 r2 ((preds.take k).foldl (addStep id) (ps, ns)).1 ((preds.take k).foldl (addStep id) (ps, ns)).2 ∧ Ext (fun k => k = r1 ∨ k = r2) w wr ∧ wr.cell? ⟨w.heap.size, 0, none⟩ = some (.int .i64 id)) (fun i _ => preds.length - (intOf i).toNat)
        case atStart => exact ⟨0, Nat.zero_le _, rfl, hd1.keep ((Ext.refl NoB _).drewN _) nb nb nb, (hE1.drewN _).mono (fun _ _ h => h.elim), hc1⟩
        case round =>
          obtain ⟨k, hk, rfl, hdk, hext, hid⟩ := hrel
          clear hc0 hc1 hl hd1 hE1 hs1
          by_cases hlt' : k < preds.length
          · obtain rfl := hs.addr (by omega)
            have hcell := (hs.keep hext hsb).intCell k hlt'
            generalize hst : (preds.take k).foldl (addStep id) (ps, ns) = st at hdk
            obtain ⟨ps1, ns1⟩ := st
            have hst' := Lib.hid hst
            clear hst
            have c0 : wr.cell? ⟨b, 0, none⟩ = some (.map (some r1)) := by simp [World.cell?, hdk.blk]
            have c1 : wr.cell? ⟨b, 1, none⟩ = some (.map (some r2)) := by simp [World.cell?, hdk.blk]
            have hX : Ext NoB wr (wr.alloc (.cells #[.int .i64 preds[k], .int .i64 id] 54)) := (Ext.refl _ _).alloc _
            have x0 : (wr.alloc (.cells #[.int .i64 preds[k], .int .i64 id] 54)).cell? ⟨wr.heap.size, 0, none⟩ = some (.int .i64 preds[k]) := by rw [World.cell?, alloc_at]; rfl
            have x1 : (wr.alloc (.cells #[.int .i64 preds[k], .int .i64 id] 54)).cell? ⟨wr.heap.size, 1, none⟩ = some (.int .i64 id) := by rw [World.cell?, alloc_at]; rfl
            go_wp2_with fail
            generalize wr.alloc (.cells #[.int .i64 preds[k], .int .i64 id] 54) = wq at *
            have hdq := hdk.keep hX nb nb nb
            have q0 : wq.cell? ⟨b, 0, none⟩ = some (.map (some r1)) := hX.cell c0 nb
            have q1 : wq.cell? ⟨b, 1, none⟩ = some (.map (some r2)) := hX.cell c1 nb
            have q2 : wq.cell? ⟨w.heap.size, 0, none⟩ = some (.int .i64 id) := hX.cell hid nb
            have hl : ∀ n, (Instr.lookup 46 (.map (some r1)) (.agg #[.int .i64 preds[k], .int .i64 id]) false).run Try.prog (wq.drewN n) = .ok (.bool ((mget ps1 (preds[k], id)).getD false)) (wq.drewN n) := fun n =>
              (hdq.m1.of_block (w' := wq.drewN n) rfl).run_lookup key_pair Try.underlying46 (z := false) zero_bool (preds[k], id) false
            clear c0 c1 hid hcell
            cases hg : (mget ps1 (preds[k], id)).getD false with
            | true =>
              have hg' := Lib.hid hg
              rw [hg] at hl
              clear hg
              go_quiet (fail)
              go_wp2_with fail
              go_roundw
              case rel =>
                refine ⟨k + 1, by omega, by go_num, ?_, ((hext.trans hX (fun _ _ h => h.elim)).drewN _), q2⟩
                rw [List.take_succ_eq_append_getElem hlt', List.foldl_append, hst'.out]
                show DagAt _ b r1 r2 (addStep id (ps1, ns1) preds[k]).1 (addStep id (ps1, ns1) preds[k]).2
                unfold addStep
                rw [if_pos hg'.out]
                exact hdq.keep ((Ext.refl NoB _).drewN _) nb nb nb
              case measure => simp [intOf]; omega
            | false =>
              have hg' := Lib.hid hg
              rw [hg] at hl
              clear hg
              go_quiet (fail)
              go_wp2_with fail
              refine gen_wp ?_
              intro wz hz
              have z0 := hz.cell q0 nb
              have z1 := hz.cell q1 nb
              have z2 := hz.cell q2 nb
              have z3 := hz.cell x0 nb
              have z4 := hz.cell x1 nb
              have hdz := hdq.keep hz nb nb nb
              have hext' := (hext.trans hX (fun _ _ h => h.elim)).trans hz (fun _ _ h => h.elim)
              clear q0 q1 q2 x0 x1 hl hX hdk hdq hext hz
              go_still_tail 5, (by kernel_rfl)
              refine wpList_mapPut (ek := pairV .i64) (ev := Value.bool) rfl rfl key_pair Try.underlying46 (hdz.m1.of_block rfl) rfl (preds[k], id) rfl true rfl ?_
              intro w2 hm1 hx2
              have hx2' : Ext (fun x => x = r1) wz w2 := ((Ext.refl _ wz).drew).trans hx2 (fun _ _ h => h)
              have hd2 : DagAt w2 b r1 r2 (mput ps1 (preds[k], id) true) ns1 := ⟨hx2'.keep hdz.blk (hdz.m1.ne_cell z0), hm1, hdz.m2.keep hx2' (Ne.symm hdz.ne), hdz.ne⟩
              have y0 := hx2'.cell z0 (hdz.m1.ne_cell z0)
              have y1 := hx2'.cell z1 (hdz.m1.ne_cell z1)
              have y2 := hx2'.cell z2 (hdz.m1.ne_cell z2)
              have hext2 := hext'.trans hx2' (G := fun x => x = r1) (fun _ _ h => Or.inl h)
              have hl2 : (Instr.lookup 47 (.map (some r2)) (.int .i64 id) false).run Try.prog w2.drew = .ok (.int .i64 ((mget ns1 id).getD 0)) w2.drew :=
                (hd2.m2.of_block (w' := w2.drew) rfl).run_lookup key_int Try.underlying47 (z := 0) zero_int id false
              clear z0 z1 z2 z3 z4 hx2 hx2' hext' hm1 hdz
              go_wp2_with fail
              go_still_tail 7, (by kernel_rfl)
              refine wpList_mapPut (ek := intV .i64) (ev := intV .i64) rfl rfl key_int Try.underlying47 (hd2.m2.of_block rfl) rfl id rfl _ rfl ?_
              intro w3 hm3 hx3
              have hx3' : Ext (fun x => x = r2) w2 w3 := ((Ext.refl _ w2).drew).trans hx3 (fun _ _ h => h)
              have hd3 : DagAt w3 b r1 r2 (mput ps1 (preds[k], id) true) (mput ns1 id (IntKind.i64.wrap ((mget ns1 id).getD 0 + 1))) := ⟨hx3'.keep hd2.blk (hd2.m2.ne_cell y0), hd2.m1.keep hx3' hd2.ne, hm3, hd2.ne⟩
              have w0 := hx3'.cell y2 (hd2.m2.ne_cell y2)
              have hext3 := hext2.trans hx3' (G := fun x => x = r2) (fun _ _ h => Or.inr h)
              clear y0 y1 y2 hx3 hx3' hl2 hext2 hm3 hd2
              go_wp2_with fail
              go_roundw
              case rel =>
                refine ⟨k + 1, by omega, by go_num, ?_, hext3, w0⟩
                rw [List.take_succ_eq_append_getElem hlt', List.foldl_append, hst'.out]
                show DagAt _ b r1 r2 (addStep id (ps1, ns1) preds[k]).1 (addStep id (ps1, ns1) preds[k]).2
                unfold addStep
                rw [if_neg (by rw [hg'.out]; exact Bool.false_ne_true)]
                exact hd3
              case measure => simp [intOf]; omega
          · obtain rfl : k = preds.length := by omega
            rw [List.take_length] at hdk
            have hv : Hid (dagAdd (ps, ns) id preds = ((mget (preds.foldl (addStep id) (ps, ns)).2 id).getD 0, 0, preds.foldl (addStep id) (ps, ns))) := by
              show _ = _
              unfold dagAdd
              rw [if_neg (by simp [hb'.out, h1]), if_neg (by rw [hm'.out]; exact Bool.false_ne_true)]
            generalize preds.foldl (addStep id) (ps, ns) = st at hdk hv
            have c1 : wr.cell? ⟨b, 1, none⟩ = some (.map (some r2)) := by simp [World.cell?, hdk.blk]
            have hl2 : ∀ n, (Instr.lookup 47 (.map (some r2)) (.int .i64 id) false).run Try.prog (wr.drewN n) = .ok (.int .i64 ((mget st.2 id).getD 0)) (wr.drewN n) := fun n =>
              (hdk.m2.of_block (w' := wr.drewN n) rfl).run_lookup key_int Try.underlying47 (z := 0) zero_int id false
            go_wp2_with fail
            go_quiet (fail)
            go_wp2_with fail
            go_ret2
            rw [hv.out]
            exact ⟨rfl, hdk.keep ((Ext.refl NoB _).drewN _) nb nb nb, hext.drewN _⟩

end Go.Proofs.Ytolihdcfhonfgaa
