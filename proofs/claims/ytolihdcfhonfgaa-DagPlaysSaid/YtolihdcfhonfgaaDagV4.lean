/- The reference's Kill: the walk. -/
import Derived.Test.YtolihdcfhonfgaaProg
import Derived.Test.YtolihdcfhonfgaaDagV3
namespace Go.Proofs.Ytolihdcfhonfgaa
open Go.RowKit
set_option linter.unusedSimpArgs false
set_option linter.unusedVariables false

def filtR (d : List Int) (rows : List RowV) : List RowV := rows.filter (fun r => !decide (r.id ∈ d))
theorem filtR_snoc (d : List Int) (rows : List RowV) (r : RowV) : filtR d (rows ++ [r]) = filtR d rows ++ (if r.id ∈ d then [] else [r]) := by
  unfold filtR
  rw [List.filter_append]
  congr 1
  by_cases h : r.id ∈ d <;> simp [List.filter_cons, h]
theorem predStep_ge (id : Int) (ps : List Int) : ∀ dead : List Int, dead.length ≤ (ps.foldl (predStep id) dead).length := by
  induction ps with
  | nil => intro dead; simp
  | cons p ps ih =>
    intro dead
    rw [List.foldl_cons]
    refine Nat.le_trans ?_ (ih _)
    unfold predStep
    split <;> simp
theorem refDead_pos (id : Int) (L : List (Int × List Int)) : 1 ≤ (refDead id L).length := by
  have : ∀ (L : List (Int × List Int)) (d : List Int), d.length ≤ (L.foldl (fun dead l => l.2.foldl (predStep l.1) dead) d).length := by
    intro L
    induction L with
    | nil => intro d; simp
    | cons l L ih => intro d; exact Nat.le_trans (predStep_ge l.1 l.2 d) (ih _)
  exact this L [id]
theorem setCell_block {w : World} {b : Nat} {v u : Value} {E : TypeId} (h : w.heap[b]? = some (.cells #[v] E (0, 0))) : (w.setCell ⟨b, 0, none⟩ u).heap[b]? = some (.cells #[u] E (0, 0)) := by
  unfold World.setCell
  simp [Array.getElem?_modify, h]

theorem filtR_len (d : List Int) (rows : List RowV) : (filtR d rows).length ≤ rows.length := List.length_filter_le _ _
theorem filt_pair {Q : RowV → Int × List Int → Prop} (f : RowV → Bool) (g : Int × List Int → Bool) : ∀ (rows : List RowV) (L : List (Int × List Int)), rows.length = L.length → (∀ (i : Nat) (r : RowV) (l : Int × List Int), rows[i]? = some r → L[i]? = some l → f r = g l ∧ Q r l) →
    (rows.filter f).length = (L.filter g).length ∧ ∀ (i : Nat) (r : RowV) (l : Int × List Int), (rows.filter f)[i]? = some r → (L.filter g)[i]? = some l → Q r l
  | [], [], _, _ => ⟨rfl, by intro i r l h; simp at h⟩
  | [], _ :: _, h, _ => by simp at h
  | _ :: _, [], h, _ => by simp at h
  | r :: rows, l :: L, h, hq => by
    have h0 := hq 0 r l rfl rfl
    obtain ⟨i1, i2⟩ := filt_pair (Q := Q) f g rows L (by simpa using h) (fun i r' l' h1 h2 => hq (i + 1) r' l' h1 h2)
    rw [List.filter_cons, List.filter_cons, h0.1]
    by_cases hg : g l = true
    · rw [if_pos hg, if_pos hg]
      refine ⟨by simp [i1], fun i r' l' h1 h2 => ?_⟩
      cases i with
      | zero => simp only [List.getElem?_cons_zero, Option.some.injEq] at h1 h2; rw [← h1, ← h2]; exact h0.2
      | succ i => simp only [List.getElem?_cons_succ] at h1 h2; exact i2 i r' l' h1 h2
    · rw [if_neg hg, if_neg hg]
      exact ⟨i1, i2⟩

set_option maxRecDepth 4000 in
set_option maxHeartbeats 4000000 in
theorem refKill_calls (b : Nat) (L : List (Int × List Int)) (id : Int) (w : World) (h : RefAt w b L) (hL : L.length ≤ 1000000) :
    Calls Try.prog 18 #[.pointer (some ⟨b, 0, none⟩), .int .i64 id] w fun e w' => ∃ v g l, e = .returned v ∧ SlO w' 3 1 intE g v l ∧ SetList l (· ∈ (refDead id L).tail) ∧ (∀ q, g = some q → w.heap.size ≤ q) ∧ RefAt w' b (L.filter (fun l => !decide (l.1 ∈ refDead id L))) ∧ Ext (fun q => q = b) w w' := by
  obtain ⟨A, c, b', o, rows, h1, h2, h3, h4, h5⟩ := h
  have hle := h2.le
  have hmx := h2.max
  unfold maxLen at hmx
  have hc0 : w.cell? ⟨b, 0, none⟩ = some (.slice A L.length c) := by rw [cell_of_row w b 0 _ _ (0, 0) h1, h4]; rfl
  rw [h4] at hle
  go_enter Try.func18, Try.ntmps18
  go_wp2_with fail
  go_loopw [5, 6] (fun out i wr => ∃ (k : Nat) (g : Option Nat), k ≤ L.length ∧ i = .int .i64 k ∧ SlO wr 3 1 intE g out (refDead id (L.take k)) ∧ (∀ q, g = some q → w.heap.size ≤ q) ∧ Ext NoB w wr) (fun _ i _ => L.length - (intOf i).toNat)
  case atStart =>
    refine ⟨0, some w.heap.size, Nat.zero_le _, rfl, ?_, fun q hq => by injection hq with hq; omega, (Ext.refl _ _).alloc _⟩
    exact SlO.made (xs := [id]) (alloc_at w (.cells #[.int .i64 id] 3)) rfl intE_len (by simp [maxLen])
  case round =>
    obtain ⟨k, g, hk, rfl, hO, hg, hext⟩ := hrel
    have hc0' := hext.cell hc0 nb
    by_cases hlt : k < L.length
    · obtain rfl := h2.addr (by omega)
      obtain ⟨A1, c1, b1, o1, g1, g2, g3, g4⟩ := RefAt.at h2 h5 h4 hlt
      have htk := Lib.hid (List.take_succ_eq_append_getElem hlt)
      have hsn := Lib.hid (refDead_snoc id (L.take k) L[k])
      have hdl := refDead_len id (L.take k)
      have hdl2 := refDead_len id (L.take k ++ [L[k]])
      rw [refDead_snoc] at hdl2
      rw [List.length_take] at hdl
      rw [List.length_append, List.length_take] at hdl2
      generalize L[k] = l at *
      generalize refDead id (L.take k) = d0 at *
      have hle1 := g3.le
      have hmx1 := g3.max
      unfold maxLen at hmx1
      have g1' := hext.cell g1 nb
      have g2' := hext.cell g2 nb
      go_wp2_with fail
      go_loopw [5, 7] (fun out j wr => ∃ (m : Nat) (gg : Option Nat), m ≤ l.2.length ∧ j = .int .i64 m ∧ SlO wr 3 1 intE gg out ((l.2.take m).foldl (predStep l.1) d0) ∧ (∀ q, gg = some q → w.heap.size ≤ q) ∧ Ext NoB w wr) (fun _ j _ => l.2.length - (intOf j).toNat)
      case atStart => exact ⟨0, g, Nat.zero_le _, rfl, hO, hg, hext⟩
      case round =>
        clear hO hg g1' g2' hc0' hext
        obtain ⟨m, gg, hm, rfl, hOm, hgg, hxm⟩ := hrel
        have hc1 := hxm.cell hc0 nb
        have e1 := hxm.cell g1 nb
        have e2 := hxm.cell g2 nb
        have hlenm := predStep_len l.1 (l.2.take m) d0
        by_cases hml : m < l.2.length
        · obtain rfl := g3.addr (by omega)
          have e3 := (g3.keep hxm nb1).intCell m hml
          have hmk := Lib.hid (List.take_succ_eq_append_getElem hml)
          generalize l.2[m] = p at *
          have hst : Hid ((l.2.take m ++ [p]).foldl (predStep l.1) d0 = predStep l.1 ((l.2.take m).foldl (predStep l.1) d0) p) := by show _ = _; rw [List.foldl_append]; rfl
          generalize (l.2.take m).foldl (predStep l.1) d0 = dm at *
          obtain ⟨Ad, cd, bd, od, rfl, hrd, _⟩ := hOm.read
          by_cases hp : p ∈ dm
          · have hdp : decide (p ∈ dm) = true := decide_eq_true hp
            by_cases hi : l.1 ∈ dm
            · have hdi : decide (l.1 ∈ dm) = true := decide_eq_true hi
              have hno : Hid (predStep l.1 dm p = dm) := by show _ = _; unfold predStep; rw [if_neg (fun h => h.2 hi)]
              go_wp2_with fail
              with_reducible refine (has_calls Ad cd bd od dm p wr hrd).mono ?_
              rintro e w3 ⟨rfl, rfl⟩
              rw [hdp]
              go_wp2_with fail
              with_reducible refine (has_calls Ad cd bd od dm l.1 w3 hrd).mono ?_
              rintro e w4 ⟨rfl, rfl⟩
              rw [hdi]
              go_wp2_with fail
              go_roundw
              case rel => exact ⟨m + 1, gg, by omega, by go_num, by rw [hmk.out, hst.out, hno.out]; exact hOm, hgg, hxm⟩
              case measure => simp [intOf]; omega
            · have hdi : decide (l.1 ∈ dm) = false := decide_eq_false hi
              have hyes : Hid (predStep l.1 dm p = dm ++ [l.1]) := by show _ = _; unfold predStep; rw [if_pos ⟨hp, hi⟩]
              have hb1 : (dm.length + 1) * 8 ≤ 140737488355328 := by omega
              have hb2 : dm.length + 1 ≤ maxLen := by unfold maxLen; omega
              go_wp2_with fail
              with_reducible refine (has_calls Ad cd bd od dm p wr hrd).mono ?_
              rintro e w3 ⟨rfl, rfl⟩
              rw [hdp]
              go_wp2_with fail
              with_reducible refine (has_calls Ad cd bd od dm l.1 w3 hrd).mono ?_
              rintro e w4 ⟨rfl, rfl⟩
              rw [hdi]
              go_wp2_with (at_builtin; go_loud (refine wpList_appendO (ys := [l.1]) rfl rfl elem_int intE_len intE_one (hOm.keep ((Ext.refl NoB _).alloc _) (fun _ _ => nb)) rfl (SlR.one' (alloc_at' _ _ _ (by simp)) rfl) rfl rfl hb1 hb2 (fun v' w5 g' hO' hx5 hg' => ?_)))
              have hsz := hxm.size
              have hgn : ∀ q, g' = some q → w.heap.size ≤ q := fun q hq => by
                rcases hg' with rfl | rfl
                · exact hgg q hq
                · simp only [Option.some.injEq] at hq
                  simp at hq
                  omega
              go_roundw
              case rel =>
                refine ⟨m + 1, g', by omega, by go_num, by rw [hmk.out, hst.out, hyes.out]; exact hO', hgn, ?_⟩
                exact (hxm.trans ((Ext.refl NoB _).alloc _) (fun _ _ h => h)).trans hx5 (fun i hi e => absurd (hgg i e) (by omega))
              case measure => simp [intOf]; omega
          · have hdp : decide (p ∈ dm) = false := decide_eq_false hp
            have hno : Hid (predStep l.1 dm p = dm) := by show _ = _; unfold predStep; rw [if_neg (fun h => hp h.1)]
            go_wp2_with fail
            with_reducible refine (has_calls Ad cd bd od dm p wr hrd).mono ?_
            rintro e w3 ⟨rfl, rfl⟩
            rw [hdp]
            go_wp2_with fail
            go_roundw
            case rel => exact ⟨m + 1, gg, by omega, by go_num, by rw [hmk.out, hst.out, hno.out]; exact hOm, hgg, hxm⟩
            case measure => simp [intOf]; omega
        · rw [List.take_of_length_le (by omega)] at hOm
          go_wp2_with fail
          go_roundw
          case rel => exact ⟨k + 1, gg, by omega, by go_num, by rw [htk.out, hsn.out]; exact hOm, hgg, hxm⟩
          case measure => simp [intOf]; omega
    · rw [List.take_of_length_le (by omega)] at hO
      have hdl := refDead_len id L
      generalize wr = we at *
      obtain ⟨Ad, cd, bd, od, rfl, hrd, hgd⟩ := hO.read
      have hsz := hext.size
      have hbw := lt_of_block h1
      have hbd : 0 < (refDead id L).length → bd < we.heap.size := fun hp => World.block_lt_of_cell? we ⟨bd, od + 0, none⟩ (hrd.intCell 0 hp)
      go_wp2_with fail
      go_loopw [8, 9] (fun out i wr => ∃ (m : Nat) (gg : Option Nat), m ≤ L.length ∧ i = .int .i64 m ∧ SlO wr 63 2 rowE gg out (filtR (refDead id L) (rows.take m)) ∧ (∀ q, gg = some q → we.heap.size ≤ q) ∧ Ext NoB we wr) (fun _ i _ => L.length - (intOf i).toNat)
      case atStart => exact ⟨0, none, Nat.zero_le _, rfl, SlO.nil _ _ _ _, by simp, Ext.refl _ _⟩
      case round =>
        obtain ⟨m, gg, hm, rfl, hOm, hgg, hxm⟩ := hrel
        have hxw := hext.trans hxm (fun _ _ h => h)
        have hc1 := hxw.cell hc0 nb
        have hrm := hrd.keep hxm nb1
        have hlenm := filtR_len (refDead id L) (rows.take m)
        rw [List.length_take] at hlenm
        by_cases hml : m < L.length
        · obtain rfl := h2.addr (by omega)
          have hmr : m < rows.length := by omega
          have hr0 := List.getElem?_eq_getElem hmr
          have e1 : wr.cell? ⟨b', o + m * 2, none⟩ = some (.int .i64 rows[m].id) := hxw.cell (h2.cell rowE_len m rows[m] hr0 0 _ rfl) nb
          have e2 : wr.cell? ⟨b', o + m * 2 + 1, none⟩ = some (.slice rows[m].a rows[m].n rows[m].c) := hxw.cell (h2.cell rowE_len m rows[m] hr0 1 _ rfl) nb
          have hmk := Lib.hid (List.take_succ_eq_append_getElem hmr)
          have hsn := Lib.hid (filtR_snoc (refDead id L) (rows.take m) rows[m])
          clear hr0
          generalize rows[m] = r at *
          by_cases hi : r.id ∈ refDead id L
          · have hdi : decide (r.id ∈ refDead id L) = true := decide_eq_true hi
            go_wp2_with fail
            with_reducible refine (has_calls Ad cd bd od (refDead id L) r.id wr hrm).mono ?_
            rintro e w3 ⟨rfl, rfl⟩
            rw [hdi]
            go_wp2_with fail
            go_roundw
            case rel => exact ⟨m + 1, gg, by omega, by go_num, by rw [hmk.out, hsn.out, if_pos hi, List.append_nil]; exact hOm, hgg, hxm⟩
            case measure => simp [intOf]; omega
          · have hdi : decide (r.id ∈ refDead id L) = false := decide_eq_false hi
            have hb1 : ((filtR (refDead id L) (rows.take m)).length + 1) * 32 ≤ 140737488355328 := by omega
            have hb2 : (filtR (refDead id L) (rows.take m)).length + 1 ≤ maxLen := by unfold maxLen; omega
            go_wp2_with fail
            with_reducible refine (has_calls Ad cd bd od (refDead id L) r.id wr hrm).mono ?_
            rintro e w3 ⟨rfl, rfl⟩
            rw [hdi]
            go_wp2_with (at_builtin; go_loud (refine wpList_appendO (ys := [r]) rfl rfl elem_row rowE_len rowE_one (hOm.keep ((Ext.refl NoB _).alloc _) (fun _ _ => nb)) rfl (SlR.one' (alloc_at' _ _ _ (by simp)) rfl) rfl rfl hb1 hb2 (fun v' w5 g' hO' hx5 hg' => ?_)))
            have hsz2 := hxm.size
            have hgn : ∀ q, g' = some q → we.heap.size ≤ q := fun q hq => by
              rcases hg' with rfl | rfl
              · exact hgg q hq
              · simp only [Option.some.injEq] at hq
                simp at hq
                omega
            go_roundw
            case rel =>
              refine ⟨m + 1, g', by omega, by go_num, by rw [hmk.out, hsn.out, if_neg hi]; exact hO', hgn, ?_⟩
              exact (hxm.trans ((Ext.refl NoB _).alloc _) (fun _ _ h => h)).trans hx5 (fun i hi e => absurd (hgg i e) (by omega))
            case measure => simp [intOf]; omega
        · rw [List.take_of_length_le (by omega)] at hOm
          have hwb := hxw.keep h1 nb
          have hz1 : wr.frozen? ⟨b, 0, none⟩ = false := by simp [World.frozen?, hwb]
          obtain ⟨Ar', cr, br, orr, rfl, hrr, hgr⟩ := hOm.read
          have hpos := refDead_pos id L
          have hrlen := refDead_len id L
          have hled := hrm.le
          have hmxd := hrm.max
          unfold maxLen at hmxd
          obtain rfl := hrm.addr (by omega)
          have hset : Ext (fun q => q = b) wr (wr.setCell ⟨b, 0, none⟩ (.slice Ar' (filtR (refDead id L) rows).length cr)) := (Ext.refl (fun q => q = b) wr).setCell (fun _ => rfl) _
          have hwb2 := setCell_block (u := .slice Ar' (filtR (refDead id L) rows).length cr) hwb
          have hdb := hbd (by omega)
          have hi1 : (1 : Int) ≤ ((refDead id L).length : Int) := by omega
          have hbdb : bd ≠ b := fun e => by have := hg bd (hgd (by omega)); omega
          have hszw := hxw.size
          have hszs : (wr.setCell ⟨b, 0, none⟩ (.slice Ar' (filtR (refDead id L) rows).length cr)).heap.size = wr.heap.size := by simp [World.setCell]
          have hszs' := Lib.hid hszs
          clear hszs
          have hend : ∀ w9, Ext NoB (wr.setCell ⟨b, 0, none⟩ (.slice Ar' (filtR (refDead id L) rows).length cr)) w9 → RefAt w9 b (L.filter (fun l => !decide (l.1 ∈ refDead id L))) ∧ Ext (fun q => q = b) w w9 := fun w9 hx9 => by
            have hww : Ext (fun q => q = b) w w9 := ((hxw.mono (fun _ _ h => h.elim)).trans hset (fun _ _ h => h)).trans hx9 (fun _ _ h => h.elim)
            obtain ⟨p1, p2⟩ := filt_pair (Q := fun r l => r.id = l.1 ∧ IsL w b (.slice r.a r.n r.c) l.2) (fun r => !decide (r.id ∈ refDead id L)) (fun l => !decide (l.1 ∈ refDead id L)) rows L h4 (fun i r l hr hl => ⟨by rw [(h5 i r l hr hl).1], h5 i r l hr hl⟩)
            refine ⟨⟨Ar', cr, br, orr, filtR (refDead id L) rows, hx9.keep hwb2 nb, (hrr.keep hset (fun hp => by have := hgg br (hgr hp); omega)).keep hx9 nb1, ⟨fun hp => by have := hgg br (hgr hp); omega, hOm.can⟩, p1, fun i r l hr hl => ?_⟩, hww⟩
            obtain ⟨e1, e2⟩ := p2 i r l hr hl
            exact ⟨e1, e2.keep hww (fun q hq _ e => by omega)⟩
          have hend' := Lib.hid hend
          clear hend
          by_cases hcd : cd = 1
          · have hlen1 : (refDead id L).length = 1 := by omega
            have hd0 : ((refDead id L).drop 1).length = 0 := by rw [List.length_drop]; omega
            have hc := rising_calls (some ⟨bd, od, none⟩) 0 bd od ((refDead id L).drop 1) (wr.setCell ⟨b, 0, none⟩ (.slice Ar' (filtR (refDead id L) rows).length cr)) (slR_nil (List.eq_nil_of_length_eq_zero hd0) (by simp [maxLen])) (by omega)
            rw [hd0] at hc
            have hc' := Lib.hid hc
            clear hc hd0
            subst hcd
            go_wp2_with fail
            with_reducible refine hc'.out.mono ?_
            rintro e w9 ⟨v9, g9, l9, rfl, hO9, hs9, hl9, hq9, hx9⟩
            obtain ⟨A9, c9, b9, o9, rfl, _, _⟩ := hO9.read
            go_wp2_with fail
            go_ret
            rw [List.drop_one] at hs9
            exact ⟨_, g9, l9, rfl, hO9, hs9, fun q hq => by have := hq9 q hq; rw [hszs'.out] at this; omega, (hend'.out _ hx9).1, (hend'.out _ hx9).2⟩
          · have hc := rising_calls (some ⟨bd, od + 1, none⟩) (cd - 1) bd (od + 1) ((refDead id L).drop 1) (wr.setCell ⟨b, 0, none⟩ (.slice Ar' (filtR (refDead id L) rows).length cr)) ((hrm.keep hset (fun _ => hbdb)).drop intE_len hpos (fun _ => rfl)) (by rw [List.length_drop]; omega)
            rw [List.length_drop] at hc
            have hc' := Lib.hid hc
            clear hc
            go_wp2_with fail
            with_reducible refine hc'.out.mono ?_
            rintro e w9 ⟨v9, g9, l9, rfl, hO9, hs9, hl9, hq9, hx9⟩
            obtain ⟨A9, c9, b9, o9, rfl, _, _⟩ := hO9.read
            go_wp2_with fail
            go_ret
            rw [List.drop_one] at hs9
            exact ⟨_, g9, l9, rfl, hO9, hs9, fun q hq => by have := hq9 q hq; rw [hszs'.out] at this; omega, (hend'.out _ hx9).1, (hend'.out _ hx9).2⟩

end Go.Proofs.Ytolihdcfhonfgaa
