/- The reference's Done: the walk. -/
import Derived.Test.YtolihdcfhonfgaaProg
import Derived.Test.YtolihdcfhonfgaaDagV5
import Derived.Deep.RegionLaw
namespace Go.Proofs.Ytolihdcfhonfgaa
open Go.RowKit
set_option linter.unusedSimpArgs false
set_option linter.unusedVariables false

/-- A row of 'rest': its list lies behind b, and neither in g nor in gr. -/
def IsX (w : World) (b : Nat) (g gr : Option Nat) (v : Value) (xs : List Int) : Prop := ∃ A c b' o, v = .slice A xs.length c ∧ SlR w 1 intE A c b' o xs ∧ (0 < xs.length → b < b' ∧ b' < w.heap.size ∧ g ≠ some b' ∧ gr ≠ some b')

theorem IsX.keep {F : Nat → Prop} {w w' : World} {b : Nat} {g gr g' gr' : Option Nat} {v : Value} {xs : List Int} (h : IsX w b g gr v xs) (x : Ext F w w') (hn : ∀ q, q < w.heap.size → g ≠ some q → gr ≠ some q → ¬ F q ∧ g' ≠ some q ∧ gr' ≠ some q) : IsX w' b g' gr' v xs := by
  obtain ⟨A, c, b', o, h1, h2, h3⟩ := h
  refine ⟨A, c, b', o, h1, h2.keep x (fun hp => ?_), fun hp => ?_⟩
  · obtain ⟨p1, p2, p3, p4⟩ := h3 hp
    exact (hn b' p2 p3 p4).1
  · obtain ⟨p1, p2, p3, p4⟩ := h3 hp
    exact ⟨p1, x.lt p2, (hn b' p2 p3 p4).2.1, (hn b' p2 p3 p4).2.2⟩

theorem pair_snoc {Q : RowV → Int × List Int → Prop} {rows : List RowV} {L : List (Int × List Int)} (hl : rows.length = L.length) (h : ∀ (i : Nat) (r : RowV) (l : Int × List Int), rows[i]? = some r → L[i]? = some l → Q r l) {r0 : RowV} {l0 : Int × List Int} (h0 : Q r0 l0) :
    ∀ (i : Nat) (r : RowV) (l : Int × List Int), (rows ++ [r0])[i]? = some r → (L ++ [l0])[i]? = some l → Q r l := by
  intro i r l hr hL
  by_cases hi : i < rows.length
  · rw [List.getElem?_append_left hi] at hr
    rw [List.getElem?_append_left (by omega)] at hL
    exact h i r l hr hL
  · rw [List.getElem?_append_right (by omega)] at hr
    rw [List.getElem?_append_right (by omega), ← hl] at hL
    have : i - rows.length = 0 := by
      have := (List.getElem?_eq_some_iff.1 hr).1
      simp at this; omega
    rw [this] at hr hL
    simp only [List.getElem?_cons_zero, Option.some.injEq] at hr hL
    subst hr hL
    exact h0

theorem setCell_block2 {w : World} {b : Nat} {v0 v u : Value} {E : TypeId} (h : w.heap[b]? = some (.cells #[v0, v] E (0, 0))) : (w.setCell ⟨b, 1, none⟩ u).heap[b]? = some (.cells #[v0, u] E (0, 0)) := by
  unfold World.setCell
  simp [Array.getElem?_modify, h]
theorem Ext.free {F : Nat → Prop} {w w' : World} (h : Ext F w w') {a : Addr} {v : Value} (hc : w.cell? a = some v) (hf : w.frozen? a = false) (hn : ¬ F a.block) : w'.frozen? a = false := by
  rw [← hf]
  unfold World.frozen?
  rw [h.block a.block (World.block_lt_of_cell? w a hc) hn]
theorem ne_some {g : Option Nat} {n q : Nat} (h : ∀ q, g = some q → n ≤ q) (hq : q < n) : ¬ g = some q := fun e => absurd (h q e) (by omega)

set_option maxRecDepth 4000 in
set_option maxHeartbeats 4000000 in
theorem refDone_calls (b : Nat) (L : List (Int × List Int)) (id : Int) (w : World) (h : RefAt w b L) (hL : L.length ≤ 1000000) (hP : ∀ l ∈ L, l.2.length ≤ 1000000) :
    Calls Try.prog 17 #[.pointer (some ⟨b, 0, none⟩), .int .i64 id] w fun e w' => ∃ v g, e = .returned v ∧ SlO w' 3 1 intE g v (refDoneOut id L) ∧ (∀ q, g = some q → w.heap.size ≤ q) ∧ RefAt w' b (refDoneRest id L) ∧ Ext (fun q => q = b) w w' := by
  obtain ⟨A, c, b', o, rows, h1, h2, h3, h4, h5⟩ := h
  have hle := h2.le
  have hmx := h2.max
  unfold maxLen at hmx
  have hbw := lt_of_block h1
  have hc0 : w.cell? ⟨b, 0, none⟩ = some (.slice A L.length c) := by rw [cell_of_row w b 0 _ _ (0, 0) h1, h4]; rfl
  rw [h4] at hle
  go_enter Try.func17, Try.ntmps17
  go_wp2_with fail
  go_loopw [5, 6, 7] (fun out rest i wr => ∃ (k : Nat) (g gr : Option Nat) (rw' : List RowV), k ≤ L.length ∧ i = .int .i64 k ∧ SlO wr 3 1 intE g out (refDoneOut id (L.take k)) ∧ SlO wr 63 2 rowE gr rest rw' ∧ rw'.length = (refDoneRest id (L.take k)).length ∧
    (∀ (i : Nat) (r : RowV) (l : Int × List Int), rw'[i]? = some r → (refDoneRest id (L.take k))[i]? = some l → r.id = l.1 ∧ IsX wr b g gr (.slice r.a r.n r.c) l.2) ∧
    (∀ q, g = some q → w.heap.size ≤ q ∧ gr ≠ some q) ∧ (∀ q, gr = some q → w.heap.size ≤ q) ∧ Ext NoB w wr) (fun _ _ i _ => L.length - (intOf i).toNat)
  case atStart => exact ⟨0, none, none, [], Nat.zero_le _, rfl, SlO.nil _ _ _ _, SlO.nil _ _ _ _, rfl, by intro i r l h; simp at h, by simp, by simp, Ext.refl _ _⟩
  case round =>
    obtain ⟨k, g, gr, rw', hk, rfl, hO, hR, hRl, hRp, hg, hgr, hext⟩ := hrel
    have hc0' := hext.cell hc0 nb
    by_cases hlt : k < L.length
    · obtain rfl := h2.addr (by omega)
      obtain ⟨A1, c1, b1, o1, g1, g2, g3, g4⟩ := RefAt.at h2 h5 h4 hlt
      have g1' := hext.cell g1 nb
      have g2' := hext.cell g2 nb
      have hP1 := hP L[k] (List.getElem_mem hlt)
      have htk := Lib.hid (List.take_succ_eq_append_getElem hlt)
      have hso := Lib.hid (refDoneOut_snoc id (L.take k) L[k])
      have hsr := Lib.hid (refDoneRest_snoc id (L.take k) L[k])
      have hlo := refDoneOut_len id (L.take k)
      rw [List.length_take] at hlo
      generalize L[k] = l at *
      generalize wr = wo at *
      have hszo := hext.size
      have g30 := g3.keep hext nb1
      have hle1 := g3.le
      have hmx1 := g3.max
      unfold maxLen at hmx1
      go_wp2_with fail
      go_loopw [9] (fun i wr => ∃ (m : Nat) (gx : Option Nat) (vx : Value), m ≤ l.2.length ∧ i = .int .i64 m ∧ wr.heap[wo.heap.size]? = some (.cells #[.int .i64 l.1, vx] 63 (0, 0)) ∧ SlO wr 3 1 intE gx vx (less1 id (l.2.take m)) ∧ (∀ q, gx = some q → wo.heap.size < q) ∧ Ext NoB wo wr) (fun i _ => l.2.length - (intOf i).toNat)
      case atStart => exact ⟨0, none, .slice none 0 0, Nat.zero_le _, rfl, alloc_at wo _, SlO.nil _ _ _ _, by simp, (Ext.refl _ _).alloc _⟩
      case round =>
        obtain ⟨m, gx, vx, hm, rfl, hbk, hX, hgx, hxm⟩ := hrel
        have hxw := hext.trans hxm (fun _ _ h => h)
        have hxm' := hxm
        have e0 := hxw.cell hc0 nb
        have e1 := hxw.cell g1 nb
        have e2 := hxw.cell g2 nb
        have f0 : wr.cell? ⟨wo.heap.size, 0, none⟩ = some (.int .i64 l.1) := by rw [cell_of_row wr (wo.heap.size) 0 _ _ (0, 0) hbk]; rfl
        have f1 : wr.cell? ⟨wo.heap.size, 1, none⟩ = some vx := by rw [cell_of_row wr (wo.heap.size) 1 _ _ (0, 0) hbk]; rfl
        have hlenm := less1_len id (l.2.take m)
        rw [List.length_take] at hlenm
        by_cases hml : m < l.2.length
        · obtain rfl := g3.addr (by omega)
          have e30 := g30.intCell m hml
          have e3 := hxm'.cell e30 nb
          have hmk := Lib.hid (List.take_succ_eq_append_getElem hml)
          have hsn := Lib.hid (less1_snoc id l.2[m] (l.2.take m))
          generalize l.2[m] = p at *
          by_cases hpi : p = id
          · have t1 : (p != id) = false := by simp [hpi]
            have hpi' := Lib.hid hpi
            clear hpi
            go_wp2_with fail
            go_roundw
            case rel => exact ⟨m + 1, gx, vx, by omega, by go_num, hbk, by rw [hmk.out, hsn.out, if_pos hpi'.out, List.append_nil]; exact hX, hgx, hxm⟩
            case measure => simp [intOf]; omega
          · have t1 : (p != id) = true := by simp [hpi]
            have t3 : wr.frozen? ⟨wo.heap.size, 1, none⟩ = false := by simp [World.frozen?, hbk]
            obtain ⟨Ax, cx, bxx, ox, rfl, hrx, hgxx⟩ := hX.read
            have q1 : ((less1 id (l.2.take m)).length + [p].length) * 8 ≤ 140737488355328 := by simp; omega
            have q2 : (less1 id (l.2.take m)).length + [p].length ≤ maxLen := by unfold maxLen; simp; omega
            have q1 := Lib.hid q1
            have n0 : ¬ gx = some b := fun e => by have := hgx b e; omega
            have n1 : ¬ gx = some b' := fun e => by have := hgx b' e; have : b' < wo.heap.size := World.block_lt_of_cell? _ _ g1'; omega
            have n2 : ¬ gx = some b1 := fun e => by have := hgx b1 e; have : b1 < wo.heap.size := World.block_lt_of_cell? _ _ e30; omega
            have n3 : ¬ gx = some wo.heap.size := fun e => by have := hgx wo.heap.size e; omega
            have hsn' := Lib.hid (show less1 id (l.2.take m ++ [p]) = less1 id (l.2.take m) ++ [p] by rw [hsn.out, if_neg hpi])
            clear hpi hxm' e30
            have hszm := hxm.size
            have hbxs := lt_of_block hbk
            go_wp2_with fail
            go_region_law (first
              | (refine step_appendL 24 8 elem_int intE_len intE_one gx (.slice Ax (less1 id (l.2.take m)).length cx) (less1 id (l.2.take m)) [p] (.tmp 55) (.tmp 67) (some ⟨wr.heap.size, 0, none⟩) 1 (wr.heap.size) 0 1 ?_ ?_ ?_ ?_ ?_ ?_ ?_ q1.out q2 ?_
                 rfl
                 rfl
                 rfl
                 rfl
                 rfl
                 (first | exact hX.keep (F := NoB) ((Ext.refl NoB wr).alloc _) (fun _ _ => nb) | exact hX.keep (F := NoB) ((Ext.refl NoB wr).drew.alloc _) (fun _ _ => nb) | exact hX.keep (F := NoB) ((Ext.refl NoB wr).alloc _).drew (fun _ _ => nb))
                 (refine SlR.one' (E := 3) (fr := (0, 0)) (cs := #[.int .i64 p]) ?_ rfl; first | exact alloc_at wr _ | exact alloc_at wr.drew _)
                 intro v5 w5 g5 hO5 hx5 hg5
                 obtain ⟨A5, c5, b5, o5, rfl, hr5, hgr5⟩ := hO5.read
                 have z1 := hx5.cell (Ext.cell ((Ext.refl NoB wr).alloc (.cells #[.int .i64 p] 3)) f1 nb) n3
                 have z2 := hx5.free (Ext.cell ((Ext.refl NoB wr).alloc (.cells #[.int .i64 p] 3)) f1 nb) (Ext.free ((Ext.refl NoB wr).alloc (.cells #[.int .i64 p] 3)) f1 t3 nb) n3))
            all_goals
              have hal : Ext NoB wr (wr.alloc (.cells #[.int .i64 p] 3)).drew := ((Ext.refl NoB wr).alloc _).drew
              have hst := (Ext.refl (fun q => q = wo.heap.size) w5).setCell (p := ⟨wo.heap.size, 1, none⟩) (fun _ => rfl) (.slice A5 (less1 id (l.2.take m) ++ [p]).length c5)
              have hkk : (w5.setCell ⟨wo.heap.size, 1, none⟩ (.slice A5 (less1 id (l.2.take m) ++ [p]).length c5)).heap[wo.heap.size]? = some (.cells #[.int .i64 l.1, .slice A5 (less1 id (l.2.take m) ++ [p]).length c5] 63 (0, 0)) := setCell_block2 (hx5.keep (hal.keep hbk nb) n3)
              have hgq : ∀ q, g5 = some q → wo.heap.size < q := fun q hq => by
                rcases hg5 with rfl | rfl
                · exact hgx q hq
                · simp only [Option.some.injEq] at hq
                  have := hal.size
                  omega
              have hall : Ext NoB wo (w5.setCell ⟨wo.heap.size, 1, none⟩ (.slice A5 (less1 id (l.2.take m) ++ [p]).length c5)) := ((hxm.trans hal (fun _ _ h => h)).trans hx5 (fun i hi e => absurd (hgx i e) (by omega))).trans hst (fun i hi e => by subst e; exact absurd hi (Nat.lt_irrefl _))
              have hO6 := hO5.keep hst (fun q hq e => by have := hgq q hq; omega)
              have hrel0 := (⟨hkk, hO6, hgq, hall⟩ : _ ∧ _ ∧ _ ∧ _)
              have hl9 : (less1 id (l.2.take m) ++ [p]).length = (less1 id (l.2.take m)).length + 1 := by simp
              rw [hl9] at hrel0
              have hrel := Lib.hid hrel0
              clear hrel0 hl9
              clear hkk hO6 hgq hall hst hal hx5 hO5 hr5 hgr5
              go_wp2_with fail
              go_roundw
              case rel => exact ⟨m + 1, g5, _, by omega, by go_num, hrel.out.1, by rw [hmk.out, hsn'.out]; exact hrel.out.2.1, hrel.out.2.2.1, hrel.out.2.2.2⟩
              case measure => simp [intOf]; omega
        · have hxw' := Lib.hid hxw
          have hle9 : l.2.take m = l.2 := List.take_of_length_le (by omega)
          rw [hle9] at hX hlenm
          have hbb : b' < wo.heap.size := World.block_lt_of_cell? _ _ g1'
          clear hle9
          obtain ⟨Ax, cx, bxx, ox, rfl, hrx, hgxx⟩ := hX.read
          generalize hps0 : less1 id l.2 = ps at *
          clear hps0
          have hlex := hrx.le
          have hmxx := hrx.max
          unfold maxLen at hmxx
          have hOm := hO.keep hxm (fun _ _ => nb)
          have hRm := hR.keep hxm (fun _ _ => nb)
          have hszm := hxm.size
          have hbxs := lt_of_block hbk
          by_cases hps : ps = []
          · have t2 : ((ps.length : Int) == 0) = true := by simp [hps]
            have hps' := Lib.hid hps
            clear hps
            have hb1 : ((refDoneOut id (L.take k)).length + 1) * 8 ≤ 140737488355328 := by omega
            have hb2 : (refDoneOut id (L.take k)).length + 1 ≤ maxLen := by unfold maxLen; omega
            go_wp2_with (at_builtin; go_loud (refine wpList_appendO (ys := [l.1]) rfl rfl elem_int intE_len intE_one (hOm.keep ((Ext.refl NoB _).alloc _) (fun _ _ => nb)) rfl (SlR.one' (alloc_at' _ _ _ (by simp)) rfl) rfl rfl hb1 hb2 (fun v5 w5 g5 hO5 hx5 hg5 => ?_)))
            have hsz5 := hx5.size
            have hal : Ext NoB wr (wr.alloc (.cells #[.int .i64 l.1] 3)) := (Ext.refl NoB wr).alloc _
            have hal1 := hal.size
            have hso0 : ∀ q, g = some q → q < wo.heap.size := fun q hq => hO.lt hq
            have hsr0 : ∀ q, gr = some q → q < wo.heap.size := fun q hq => hR.lt hq
            have hww : Ext (fun q => g = some q) wo w5 := ((hxm.trans hal (fun _ _ h => h)).mono (fun _ _ h => h.elim)).trans hx5 (fun _ _ h => h)
            have hgn : ∀ q, g5 = some q → w.heap.size ≤ q ∧ gr ≠ some q := fun q hq => by
              rcases hg5 with rfl | rfl
              · exact hg q hq
              · simp only [Option.some.injEq] at hq
                exact ⟨by omega, fun e => by have := hsr0 q e; omega⟩
            have hg5' : ∀ q, q < wo.heap.size → g5 = some q → g = some q := fun q hq e => by
              rcases hg5 with rfl | rfl
              · exact e
              · simp only [Option.some.injEq] at e
                omega
            have hRw := hR.keep hww (fun q hq e => (hg q e).2 hq)
            have hRp' : ∀ (i : Nat) (r : RowV) (l : Int × List Int), rw'[i]? = some r → (refDoneRest id (L.take k))[i]? = some l → r.id = l.1 ∧ IsX w5 b g5 gr (.slice r.a r.n r.c) l.2 := fun i r l h1 h2 => ⟨(hRp i r l h1 h2).1, (hRp i r l h1 h2).2.keep hww (fun q hq e1 e2 => ⟨e1, fun e => e1 (hg5' q hq e), e2⟩)⟩
            have hxt : Ext NoB w w5 := (hext.trans (hxm.trans hal (fun _ _ h => h)) (fun _ _ h => h)).trans hx5 (fun i hi e => absurd (hg i e).1 (by omega))
            go_roundw
            case rel => exact ⟨k + 1, g5, gr, rw', by omega, by go_num, by rw [htk.out, hso.out, if_pos hps'.out]; exact hO5, hRw, by rw [htk.out, hsr.out, if_pos hps'.out, List.append_nil]; exact hRl, by rw [htk.out, hsr.out, if_pos hps'.out, List.append_nil]; exact hRp', hgn, hgr, hxt⟩
            case measure => simp [intOf]; omega
          · have t2 : ((ps.length : Int) == 0) = false := by simp; intro e; exact hps e
            have hps' := Lib.hid hps
            clear hps
            have hrl : rw'.length ≤ L.length := by
              rw [hRl]
              unfold refDoneRest
              rw [List.length_map]
              exact Nat.le_trans (List.length_filter_le _ _) (by rw [List.length_take]; omega)
            have hb1 : (rw'.length + 1) * 32 ≤ 140737488355328 := by omega
            have hb2 : rw'.length + 1 ≤ maxLen := by unfold maxLen; omega
            go_wp2_with (at_builtin; go_loud (refine wpList_appendO (ys := [⟨l.1, Ax, ps.length, cx⟩]) rfl rfl elem_row rowE_len rowE_one (hRm.keep ((Ext.refl NoB _).alloc _) (fun _ _ => nb)) rfl (SlR.one' (alloc_at' _ _ _ (by simp)) rfl) rfl rfl hb1 hb2 (fun v5 w5 g5 hO5 hx5 hg5 => ?_)))
            have hsz5 := hx5.size
            have hal : Ext NoB wr (wr.alloc (.cells #[.int .i64 l.1, .slice Ax ps.length cx] 63)) := (Ext.refl NoB wr).alloc _
            have hal1 := hal.size
            have hso0 : ∀ q, g = some q → q < wo.heap.size := fun q hq => hO.lt hq
            have hsr0 : ∀ q, gr = some q → q < wo.heap.size := fun q hq => hR.lt hq
            have hww : Ext (fun q => gr = some q) wo w5 := ((hxm.trans hal (fun _ _ h => h)).mono (fun _ _ h => h.elim)).trans hx5 (fun _ _ h => h)
            have hwr : Ext (fun q => gr = some q) wr w5 := (hal.mono (fun _ _ h => h.elim)).trans hx5 (fun _ _ h => h)
            have hgn : ∀ q, g5 = some q → w.heap.size ≤ q := fun q hq => by
              rcases hg5 with rfl | rfl
              · exact hgr q hq
              · simp only [Option.some.injEq] at hq
                omega
            have hg5' : ∀ q, q < wr.heap.size → g5 = some q → gr = some q := fun q hq e => by
              rcases hg5 with rfl | rfl
              · exact e
              · simp only [Option.some.injEq] at e
                omega
            have hOw := hO.keep hww (fun q hq e => (hg q hq).2 e)
            have hgg : ∀ q, g = some q → w.heap.size ≤ q ∧ g5 ≠ some q := fun q hq => ⟨(hg q hq).1, fun e => (hg q hq).2 (hg5' q (by have := hso0 q hq; omega) e)⟩
            have hX1 : IsX w5 b g g5 (.slice Ax ps.length cx) ps := ⟨Ax, cx, bxx, ox, rfl, hrx.keep hwr (fun hp e => by have := hgx bxx (hgxx hp); have := hsr0 _ e; omega), fun hp => by
              have h1 := hgx bxx (hgxx hp)
              have h2 := hX.lt (hgxx hp)
              have h3 := hwr.size
              exact ⟨by omega, by omega, fun e => by have := hso0 _ e; omega, fun e => by have := hsr0 _ (hg5' _ h2 e); omega⟩⟩
            have hRp' : ∀ (i : Nat) (r : RowV) (l : Int × List Int), rw'[i]? = some r → (refDoneRest id (L.take k))[i]? = some l → r.id = l.1 ∧ IsX w5 b g g5 (.slice r.a r.n r.c) l.2 := fun i r l h1 h2 => ⟨(hRp i r l h1 h2).1, (hRp i r l h1 h2).2.keep hww (fun q hq e1 e2 => ⟨e2, e1, fun e => e2 (hg5' q (by omega) e)⟩)⟩
            have hRq := pair_snoc (Q := fun r l => r.id = l.1 ∧ IsX w5 b g g5 (.slice r.a r.n r.c) l.2) hRl hRp' (r0 := ⟨l.1, Ax, ps.length, cx⟩) (l0 := (l.1, ps)) ⟨rfl, hX1⟩
            have hxt : Ext NoB w w5 := (hext.trans (hxm.trans hal (fun _ _ h => h)) (fun _ _ h => h)).trans hx5 (fun i hi e => absurd (hgr i e) (by omega))
            go_roundw
            case rel => exact ⟨k + 1, g, g5, rw' ++ [⟨l.1, Ax, ps.length, cx⟩], by omega, by go_num, by rw [htk.out, hso.out, if_neg hps'.out, List.append_nil]; exact hOw, hO5, by rw [htk.out, hsr.out, if_neg hps'.out, List.length_append, List.length_append, hRl]; rfl, by rw [htk.out, hsr.out, if_neg hps'.out]; exact hRq, hgg, hgn, hxt⟩
            case measure => simp [intOf]; omega
    · rw [List.take_of_length_le (by omega)] at hO hRl hRp
      have hwb := hext.keep h1 nb
      have hz1 : wr.frozen? ⟨b, 0, none⟩ = false := by simp [World.frozen?, hwb]
      obtain ⟨Ar, cr, br, orr, rfl, hrr, hgrr⟩ := hR.read
      have hset : Ext (fun q => q = b) wr (wr.setCell ⟨b, 0, none⟩ (.slice Ar rw'.length cr)) := (Ext.refl (fun q => q = b) wr).setCell (fun _ => rfl) _
      have hwb2 := setCell_block (u := .slice Ar rw'.length cr) hwb
      have hend : RefAt (wr.setCell ⟨b, 0, none⟩ (.slice Ar rw'.length cr)) b (refDoneRest id L) := by
        refine ⟨Ar, cr, br, orr, rw', hwb2, hrr.keep hset (fun hp => by have := hgr br (hgrr hp); omega), ⟨fun hp => by have := hgr br (hgrr hp); omega, hR.can⟩, hRl, fun i r l hr hl => ?_⟩
        obtain ⟨e1, A9, c9, b9, o9, p1, p2, p3⟩ := hRp i r l hr hl
        exact ⟨e1, A9, c9, b9, o9, p1, p2.keep hset (fun hp e => by have := (p3 hp).1; omega), fun hp => (p3 hp).1⟩
      have hend' := Lib.hid hend
      have hO9 := hO.keep hset (fun q hq e => by have := (hg q hq).1; omega)
      have hxx : Ext (fun q => q = b) w (wr.setCell ⟨b, 0, none⟩ (.slice Ar rw'.length cr)) := (hext.mono (fun _ _ h => h.elim)).trans hset (fun _ _ h => h)
      clear hRl hRp hend
      go_wp2_with fail
      go_ret
      exact ⟨_, g, rfl, hO9, fun q hq => (hg q hq).1, hend'.out, hxx⟩

end Go.Proofs.Ytolihdcfhonfgaa
