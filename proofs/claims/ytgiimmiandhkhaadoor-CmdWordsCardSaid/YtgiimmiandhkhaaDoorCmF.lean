/- The commands: Parse. -/
import Derived.Test.YtgiimmiandhkhaaDoorProg
import Derived.Test.YtgiimmiandhkhaaDoorCmE
import Derived.BigQuiet
namespace Go.Proofs.YtgiimmiandhkhaaDoor
open Go.RowKit
set_option linter.unusedSimpArgs false
set_option linter.unusedVariables false

theorem idx_names : ∀ (L : List (List UInt8)) (x : ByteArray) (i : Nat), Lib.idxFromS (L.map mk) x i = match L.findIdx? (fun y => decide (y = x.data.toList)) with | some j => ((i + j : Nat) : Int) | none => -1
  | [], x, i => rfl
  | y :: L, x, i => by
    have hxy : (mk y = x) ↔ (y = x.data.toList) := ⟨fun h => by rw [← h]; simp [mk], fun h => by rw [h]; exact mk_data x⟩
    rw [List.map_cons, Lib.idxFromS, List.findIdx?_cons, idx_names L x (i + 1)]
    by_cases h : y = x.data.toList
    · rw [if_pos (by first | exact hxy.2 h | simp [hxy.2 h]), decide_eq_true h]
      rfl
    · rw [if_neg (by first | (intro e; exact h (hxy.1 e)) | (simp; intro e; exact h (hxy.1 e))), decide_eq_false h]
      cases hq : L.findIdx? (fun y => decide (y = x.data.toList)) with
      | none => rfl
      | some j => show ((i + 1 + j : Nat) : Int) = ((i + (j + 1) : Nat) : Int); omega
theorem idx_kind (x : ByteArray) : Lib.idxOfS (cmNames.map mk) x + 1 = kindOf x.data.toList := by
  unfold Lib.idxOfS kindOf
  rw [idx_names]
  cases cmNames.findIdx? (fun y => decide (y = x.data.toList)) with
  | none => rfl
  | some j => simp

def namesV : Array Value := #[.string ⟨#[]⟩, .string (mk [115, 117, 98, 109, 105, 116]), .string (mk [97, 102, 116, 101, 114]), .string (mk [101, 118, 101, 114, 121]), .string (mk [99, 97, 110, 99, 101, 108]), .string (mk [97, 100, 118, 97, 110, 99, 101]), .string (mk [112, 105, 99, 107]), .string (mk [114, 111, 117, 110, 100]),
  .string (mk [114, 101, 115, 116]), .string (mk [115, 116, 97, 116, 117, 115]), .string (mk [115, 116, 97, 116, 101]), .string (mk [99, 108, 111, 115, 101]), .string (mk [115, 104, 117, 116, 100, 111, 119, 110]), .string (mk [101, 118, 101, 110, 116, 115]), .string (mk [114, 104, 111])]
theorem names_get (j : Nat) (hj : j < 14) : namesV[1 + j]? = some (.string ((cmNames.map mk).getD j ByteArray.empty)) := by
  have : j = 0 ∨ j = 1 ∨ j = 2 ∨ j = 3 ∨ j = 4 ∨ j = 5 ∨ j = 6 ∨ j = 7 ∨ j = 8 ∨ j = 9 ∨ j = 10 ∨ j = 11 ∨ j = 12 ∨ j = 13 := by omega
  rcases this with rfl | rfl | rfl | rfl | rfl | rfl | rfl | rfl | rfl | rfl | rfl | rfl | rfl | rfl <;> rfl
attribute [local go_sem] namesV
set_option maxRecDepth 20000 in
theorem cmWords_calls (w : World) : Calls Tryd.prog 13 #[] w fun e w' => e = .returned (.agg namesV) ∧ Ext NoB w w' := by
  go_enter Tryd.func13, Tryd.ntmps13
  go_wp2_with fail
  exact bodyPost_ret (results_cell_row rfl _ _ w.heap.size _ _ _ _ rfl (alloc_at w _) Tryd.underlying41 rfl (by kernel_rfl)) rfl ⟨rfl, (Ext.refl NoB w).alloc _⟩
theorem clipI_calls (A : Option Addr) (n c : Nat) (hn : n ≤ c) (hc : c ≤ maxLen) (w : World) :
    Calls Tryd.prog 16 #[.slice A n c] w fun e w' => e = .returned (.slice A n n) ∧ w' = w := by
  unfold maxLen at hc
  go_enter Tryd.func16, Tryd.ntmps16
  go_wp2_with fail
  go_ret
  refine ⟨?_, rfl⟩
  simp [Addr.add]

theorem results_row_tmp {P : Program} {fn : Func} {p u : Tmp} {ty : TypeId} (h : fn.results = #[.cell p ty, .tmp u]) (tmps : Array Value) (w : World) (g : Nat) (t : TypeId) (cs : Array Value) (fr : Nat × Nat) (d : TypeDesc) (x : Value) (hx : tmps.getD u undef = x)
    (hp : tmps.getD p undef = .pointer (some ⟨g, 0, none⟩)) (hg : w.heap[g]? = some (.cells cs t fr))
    (hu : P.underlying ty = some d) (hd : (match d with | .struct _ | .array _ _ => true | _ => false) = true) (hi : (P.info? ty).map (·.size) = some cs.size) :
    (results fn tmps).run P w = .ok (.tuple #[.agg cs, x]) w := by
  rw [results_cell_tmp h, hp]
  simp [asAddr, run_loadVar_row w g t ty cs fr d hg hu hd hi, Result.andThen]
  simpa using hx
/-- A command is stored whole. -/
theorem wpList_storeC {ops : Array Oper} {rest : List Oper} {o : Oper} {a : Act} {w : World} {Q : Exit → Act → World → Prop} (bo : Nat) (v0 v1 v2 v3 v4 v5 v6 v7 : Value) (old : Array Value) (hgd : o.guard = none) (p q : Operand) (ho : o.op = .store 29 p q)
    (hx : a.eval p = .pointer (some ⟨bo, 0, none⟩)) (hy : a.eval q = .agg #[v0, v1, v2, v3, v4, v5, v6, v7]) (hg : w.heap[bo]? = some (.cells old 29 (0, 0))) (h3 : old.size = 8) (h1 : ∀ v ∈ [v0, v1, v2, v3, v4, v5, v6, v7], v.oneCell' = true)
    (h : ∀ w', w'.heap[bo]? = some (.cells #[v0, v1, v2, v3, v4, v5, v6, v7] 29 (0, 0)) → Ext (· = bo) w w' → wpList Tryd.prog ops Q rest (a.put o.dst undef) w') : wpList Tryd.prog ops Q (o :: rest) a w :=
  wpList_store_row hgd 29 p q ho bo #[v0, v1, v2, v3, v4, v5, v6, v7] hx hy _ old hg (by kernel_rfl) h3 (by simpa using h1)
    (h _ (setRow_heap w bo old _ _ _ hg) ⟨rfl, rfl, rfl, by simp, fun j _ hj => setRow_other w bo j _ hj⟩)

theorem fillV_kind : ∀ (k i : Int) (ws : List (List UInt8)) (c c' : Cm), fillV k i c ws = some c' → c.preds.length ≤ 16 → c'.k = c.k := by
  intro k i ws
  induction ws generalizing i with
  | nil =>
    intro c c' h _
    rw [fillV] at h
    split at h
    · cases h; rfl
    · cases h
  | cons w r ih =>
    intro c c' h hf
    rw [fillV] at h
    obtain ⟨c1, h1, h2⟩ := Option.bind_eq_some_iff.1 h
    have hk := putV_keeps h1 hf
    rw [ih _ c1 c' h2 hk.2, hk.1]
set_option maxRecDepth 40000 in
set_option maxHeartbeats 16000000 in
theorem cmParse_calls (s : ByteArray) (w : World) (hG : Gl w) :
    Calls Tryd.prog 7 #[.string s] w fun e w' => ∃ bv pv gb gp, e = .returned (.tuple #[.agg #[.int .i64 (cmdV s.data.toList).1.k, .int .i64 (cmdV s.data.toList).1.t, .int .i64 (cmdV s.data.toList).1.p, .int .i64 (cmdV s.data.toList).1.i, .int .u64 (cmdV s.data.toList).1.n, .int .u64 (cmdV s.data.toList).1.m, bv, pv], .int .i64 (cmdV s.data.toList).2]) ∧
      SlO w' 81 3 opB gb bv (cmdV s.data.toList).1.body ∧ SlO w' 3 1 intE gp pv (cmdV s.data.toList).1.preds ∧ (∀ q, gb = some q → w.heap.size ≤ q) ∧ (∀ q, gp = some q → w.heap.size ≤ q) ∧ Ext NoB w w' := by
  generalize hRd : cmdV s.data.toList = R
  have hRd := Lib.hid hRd
  have hsz : s.data.toList.length = s.size := by rw [Array.length_toList]; rfl
  by_cases h1000 : 1000 < s.size
  · have t0 : decide (1000 < s.size) = true := by simp [h1000]
    have t0' : decide ((1000 : Int) < s.size) = true := by simp; omega
    have hv : Hid (R = (Cm.zero 0, 2)) := by show _ = _; rw [← hRd.out]; unfold cmdV; rw [if_pos (by omega)]
    go_enter Tryd.func7, Tryd.ntmps7
    go_wp2_with fail
    refine bodyPost_ret (results_row_tmp rfl _ _ w.heap.size _ _ _ _ (.int .i64 2) rfl rfl (alloc_at w _) Tryd.underlying29 rfl (by kernel_rfl)) rfl ?_
    refine ⟨.slice none 0 0, .slice none 0 0, none, none, by rw [hv.out]; rfl, by rw [hv.out]; exact SlO.nil _ _ _ _, by rw [hv.out]; exact SlO.nil _ _ _ _, by simp, by simp, (Ext.refl NoB w).alloc _⟩
  · have t0 : decide (1000 < s.size) = false := by simp; omega
    have t0' : decide ((1000 : Int) < s.size) = false := by simp; omega
    have hb0 := alloc_at w (.cells #[.int .i64 0, .int .i64 0, .int .i64 0, .int .i64 0, .int .u64 0, .int .u64 0, .slice none 0 0, .slice none 0 0] 29)
    have hx0 : Ext NoB w (w.alloc (.cells #[.int .i64 0, .int .i64 0, .int .i64 0, .int .i64 0, .int .u64 0, .int .u64 0, .slice none 0 0, .slice none 0 0] 29)) := (Ext.refl NoB w).alloc _
    go_enter Tryd.func7, Tryd.ntmps7
    go_wp2_with fail
    obtain ⟨bt, hbt⟩ : ∃ bt, w.heap.size = bt := ⟨_, rfl⟩
    rw [hbt] at hb0 ⊢
    have hbtl := lt_of_block hb0
    generalize w.alloc (.cells #[.int .i64 0, .int .i64 0, .int .i64 0, .int .i64 0, .int .u64 0, .int .u64 0, .slice none 0 0, .slice none 0 0] 29) = w0 at *
    refine (split_calls s 32 (by omega) w0 (hG.keep hx0)).mono ?_
    rintro e w1 ⟨bs, B, rfl, hBm, hB1, hx1⟩
    have hne : B.length ≠ 0 := by
      intro e
      have : (B.map (fun x => x.data.toList)).length = 0 := by rw [List.length_map]; exact e
      rw [hBm] at this
      exact spl_ne 32 _ (List.eq_nil_of_length_eq_zero this)
    obtain ⟨B0, Bt, hB0⟩ : ∃ B0 Bt, B = B0 :: Bt := by cases B with | nil => simp at hne | cons x y => exact ⟨x, y, rfl⟩
    have hBsz : ∀ x ∈ B, x.size ≤ 1000000 := by
      intro x hx
      have hm : x.data.toList ∈ spl 32 s.data.toList := by rw [← hBm]; exact List.mem_map.2 ⟨x, hx, rfl⟩
      have := (spl_mem 32 _ _ hm).1
      simp only [Array.length_toList] at this
      have e1 : x.size = x.data.size := rfl
      have e2 : s.size = s.data.size := rfl
      omega
    have hv : Hid (R = if kindOf B0.data.toList = 0 then (Cm.zero 0, (3 : Int)) else match fillV (kindOf B0.data.toList) 0 (Cm.zero (kindOf B0.data.toList)) (Bt.map (fun x => x.data.toList)) with | none => (Cm.zero 0, (3 : Int)) | some c => (c, (0 : Int))) := by
      show _ = _
      rw [← hRd.out]
      unfold cmdV
      rw [if_neg (by omega), ← hBm, hB0]
      simp only [List.map_cons, List.head?_cons, Option.getD_some, List.tail_cons]
      rfl
    have hBsz := Lib.hid hBsz
    have hb1 := hx1.keep hb0 nb
    have hx01 := hx0.trans hx1 (fun _ _ e => e)
    have hBl : B.length = Bt.length + 1 := by rw [hB0]; rfl
    have hc0 : w1.cell? ⟨bs, 0, none⟩ = some (.string B0) := by
      have := str_cells hB1 0 B0 (by rw [hB0]; rfl)
      simpa using this
    have hbsl := World.block_lt_of_cell? w1 _ hc0
    dsimp only at hbsl
    have hB0' := Lib.hid hB0
    have hmx := hB1.max
    unfold maxLen at hmx
    clear hBm hb0 hne hB0
    go_wp2_with fail
    refine (cmWords_calls w1).mono ?_
    rintro e w2 ⟨rfl, hx2⟩
    have hb2 := hx2.keep hb1 nb
    have hc2 := hx2.cell hc0 nb
    have hB2 := hB1.keep hx2 nb1
    have hw2 := hx2.size
    go_wp2_with fail
    obtain ⟨bw, hbw⟩ : ∃ bw, w2.heap.size = bw := ⟨_, rfl⟩
    have hbwr := alloc_at w2 (.cells namesV 41)
    have hx3 : Ext NoB w2 (w2.alloc (.cells namesV 41)) := (Ext.refl NoB w2).alloc _
    have hw3 : (w2.alloc (.cells namesV 41)).heap.size = bw + 1 := by simp; omega
    rw [hbw] at hbwr ⊢
    generalize hg3 : w2.alloc (.cells namesV 41) = w3 at hbwr hx3 hw3
    have hg3' : w2.alloc (.cells #[.string ⟨#[]⟩, .string (mk [115, 117, 98, 109, 105, 116]), .string (mk [97, 102, 116, 101, 114]), .string (mk [101, 118, 101, 114, 121]), .string (mk [99, 97, 110, 99, 101, 108]), .string (mk [97, 100, 118, 97, 110, 99, 101]), .string (mk [112, 105, 99, 107]), .string (mk [114, 111, 117, 110, 100]), .string (mk [114, 101, 115, 116]), .string (mk [115, 116, 97, 116, 117, 115]), .string (mk [115, 116, 97, 116, 101]), .string (mk [99, 108, 111, 115, 101]), .string (mk [115, 104, 117, 116, 100, 111, 119, 110]), .string (mk [101, 118, 101, 110, 116, 115]), .string (mk [114, 104, 111])] 41) = w3 := hg3
    rw [hg3']
    clear hg3 hg3'
    have hc3 := hx3.cell hc2 nb
    have hidx := fun wz (xz : Ext NoB w3 wz) => Tryd.slices_Index_string bw 1 14 14 (cmNames.map mk) B0 wz (by decide) (by decide) (fun j hj => by
      have hr := cell_of_row wz bw (1 + j) _ _ (0, 0) (xz.keep hbwr nb)
      rw [hr]
      exact names_get j hj)
    have hik := idx_kind B0
    rw [show (cmNames.map mk).take 14 = cmNames.map mk by rfl] at hidx
    have hidx' : Hid (∀ n, Calls Tryd.prog 14 #[.slice (some ⟨bw, 1, none⟩) 14 14, .string B0] (w3.drewN n) fun e w' => e = .returned (.int .i64 (Lib.idxOfS (cmNames.map mk) B0)) ∧ w' = w3.drewN n) := fun n => hidx _ ((Ext.refl NoB w3).drewN n)
    have hge : -1 ≤ Lib.idxOfS (cmNames.map mk) B0 := by
      have : 0 ≤ kindOf B0.data.toList := by unfold kindOf; split <;> omega
      omega
    have hle : Lib.idxOfS (cmNames.map mk) B0 < 14 := by
      have : kindOf B0.data.toList ≤ 14 := by
        unfold kindOf
        split
        · rename_i j hq
          have : j < 14 := (List.findIdx?_eq_some_iff_getElem.1 hq).1
          omega
        · omega
      omega
    have hik' := Lib.hid hik
    clear hidx hik
    generalize Lib.idxOfS (cmNames.map mk) B0 = ix at *
    have hx23 : Ext NoB w w3 := ((hx01.trans hx2 (fun _ _ e => e)).trans hx3 (fun _ _ e => e))
    have hb3 := hx3.keep hb2 nb
    have hB3 := hB2.keep hx3 nb1
    have hbtw : bt < bw := by have := lt_of_block hb2; omega
    have hbsw : bs < bw := by omega
    have hwbt : w.heap.size ≤ bt := by omega
    have hwbw : w.heap.size ≤ bw := by omega
    by_cases h0 : ix = -1
    · have hv2 : Hid (R = (Cm.zero 0, 3)) := by show _ = _; rw [hv.out, if_pos (by rw [← hik'.out, h0]; rfl)]
      subst h0
      go_quiet ((go_at_call 14; exact Calls.quiet_of_same (hidx'.out _)))
      go_wp2_with (refine wpList_storeC bt _ _ _ _ _ _ _ _ _ rfl _ _ rfl rfl rfl ((((Ext.refl NoB w3).drewN _).alloc _).keep hb3 nb) rfl (by simp [Value.oneCell']) (fun w5 hb5 hx5 => ?_))
      try simp only [Exit.inBlock, Exit.then]
      refine bodyPost_ret (results_row_tmp rfl _ _ bt _ _ _ _ (.int .i64 3) rfl rfl hb5 Tryd.underlying29 rfl (by kernel_rfl)) rfl ?_
      exact ⟨.slice none 0 0, .slice none 0 0, none, none, by rw [hv2.out]; rfl, by rw [hv2.out]; exact SlO.nil _ _ _ _, by rw [hv2.out]; exact SlO.nil _ _ _ _, by simp, by simp, (((hx23.drewN _).alloc _).trans hx5 (fun i hi e => by omega))⟩
    · have h1 : 0 ≤ ix := by omega
      have hwrap : IntKind.i64.wrap (ix + 1) = ix + 1 := by rw [IntKind.wrap_i64]; omega
      have t5 : (ix + 1 == 0) = false := by rw [beq_eq_false_iff_ne]; omega
      obtain ⟨A, hA⟩ : ∃ A : Addr, (if Bt = [] then (⟨bs, 0, none⟩ : Addr) else ⟨bs, 1, none⟩) = A := ⟨_, rfl⟩
      have hsl1 : ∀ w' : World, (Instr.slice 38 (.slice (some ⟨bs, 0, none⟩) (Bt.length + 1) (Bt.length + 1)) (some (.int .i64 1)) none none).run Tryd.prog w' = .ok (.slice (some A) Bt.length Bt.length) w' := by
        intro w'
        have h1 : (1 : Int) ≤ ((Bt.length + 1 : Nat) : Int) := by omega
        rw [run_slice_l (ht := Tryd.underlying38) (h0 := by decide) (h1 := h1)]
        subst hA
        by_cases h1 : Bt = []
        · rw [h1]; simp [go_sem]
        · simp [go_sem, h1]
      have hBt : SlR w3 1 strE (some A) Bt.length bs (0 + 1) (B.drop 1) := by
        have := hB3.drop (A' := some A) strE_len (n := 1) (by omega) (fun h => by rw [← hA, if_neg (fun e => by rw [e] at hBl; simp at hBl; omega)])
        rwa [hBl, Nat.add_sub_cancel] at this
      have hdrop : B.drop 1 = Bt := by rw [hB0'.out]; rfl
      rw [hdrop] at hBt
      have hR2 : Hid (R = match fillV (ix + 1) 0 (Cm.zero (ix + 1)) (Bt.map (fun x => x.data.toList)) with | none => (Cm.zero 0, (3 : Int)) | some c => (c, (0 : Int))) := by show _ = _; rw [hv.out, ← hik'.out, if_neg (by omega)]
      have hfc : Hid (∀ n, Calls Tryd.prog 15 #[.pointer (some ⟨bw + 1, 0, none⟩), .slice (some A) Bt.length Bt.length] ((w3.drewN n).alloc (.cells #[.int .i64 (ix + 1), .int .i64 0, .int .i64 0, .int .i64 0, .int .u64 0, .int .u64 0, .slice none 0 0, .slice none 0 0] 29)) fun e w' => e = .returned (.bool (fillV (ix + 1) 0 (Cm.zero (ix + 1)) (Bt.map (fun x => x.data.toList))).isSome) ∧
          (∀ c', fillV (ix + 1) 0 (Cm.zero (ix + 1)) (Bt.map (fun x => x.data.toList)) = some c' → ∃ lo, bw + 2 ≤ lo ∧ CmAt w' (bw + 1) lo c') ∧ Ext (· = bw + 1) ((w3.drewN n).alloc (.cells #[.int .i64 (ix + 1), .int .i64 0, .int .i64 0, .int .i64 0, .int .u64 0, .int .u64 0, .slice none 0 0, .slice none 0 0] 29)) w') := by
        intro n
        have hxa : Ext NoB w3 ((w3.drewN n).alloc (.cells #[.int .i64 (ix + 1), .int .i64 0, .int .i64 0, .int .i64 0, .int .u64 0, .int .u64 0, .slice none 0 0, .slice none 0 0] 29)) := ((Ext.refl NoB w3).drewN n).alloc _
        have hsz4 : ((w3.drewN n).alloc (.cells #[.int .i64 (ix + 1), .int .i64 0, .int .i64 0, .int .i64 0, .int .u64 0, .int .u64 0, .slice none 0 0, .slice none 0 0] 29)).heap.size = bw + 2 := by simp [World.drewN]; omega
        have := fill_calls (ix + 1) (bw + 1) (some A) Bt.length bs (0 + 1) Bt w _ hG (hx23.trans hxa (fun _ _ e => e)) (by omega) (alloc_at' (w3.drewN n) _ (bw + 1) (by simp [World.drewN]; omega)) (hBt.keep hxa nb1) (by omega) (by rw [hsz4]; omega) (fun x hx => hBsz.out x (by rw [hB0'.out]; simp [hx]))
        rw [hsz4] at this
        exact this
      have hA' := Lib.hid hA
      clear hA hik' hB0' hv hB3 hBt hdrop hB2 hB1 hBsz h0
      go_quiet ((go_at_call 14; exact Calls.quiet_of_same (hidx'.out _)))
      generalize hff : fillV (ix + 1) 0 (Cm.zero (ix + 1)) (Bt.map (fun x => x.data.toList)) = F at *
      have hff := Lib.hid hff
      cases F with
      | none =>
        have hv2 : Hid (R = (Cm.zero 0, 3)) := by show _ = _; rw [hR2.out]
        go_wp2_with (first
          | (go_at_call 15; refine (hfc.out _).mono ?_; rintro e w5 ⟨rfl, _, hx5⟩; have hb5 := hx5.keep ((((Ext.refl NoB w3).drewN _).alloc _).keep hb3 nb) (by omega))
          | (refine wpList_storeC bt _ _ _ _ _ _ _ _ _ rfl _ _ rfl rfl rfl hb5 rfl (by simp [Value.oneCell']) (fun w6 hb6 hx6 => ?_)))
        try simp only [Exit.inBlock, Exit.then]
        refine bodyPost_ret (results_row_tmp rfl _ _ bt _ _ _ _ (.int .i64 3) rfl rfl hb6 Tryd.underlying29 rfl (by kernel_rfl)) rfl ?_
        exact ⟨.slice none 0 0, .slice none 0 0, none, none, by rw [hv2.out]; rfl, by rw [hv2.out]; exact SlO.nil _ _ _ _, by rw [hv2.out]; exact SlO.nil _ _ _ _, by simp, by simp, ((((hx23.drewN _).alloc _).trans hx5 (fun i hi e => by omega)).trans hx6 (fun i hi e => by omega))⟩
      | some c =>
        have hv2 : Hid (R = (c, 0)) := by show _ = _; rw [hR2.out]
        have hck : c.k = ix + 1 := fillV_kind _ _ _ _ _ hff.out (Nat.zero_le _)
        have hck' := Lib.hid hck
        clear hck
        go_wp2_with (first
          | (go_at_call 15; refine (hfc.out _).mono ?_; rintro e w5 ⟨rfl, hA5, hx5⟩; have hb5 := hx5.keep ((((Ext.refl NoB w3).drewN _).alloc _).keep hb3 nb) (by omega); obtain ⟨lo, hlo, bv, pv, gb, gp, k1, k2, k3, k4, k5, k6, k7, k8, k9⟩ := hA5 c rfl; obtain ⟨Ap, cp, bp, op, rfl, hrp, hgp⟩ := k3.read; obtain ⟨Ab, cb, bb, ob, rfl, hrb, hgb⟩ := k2.read; have n7 := cell_of_row w5 (bw + 1) 7 _ _ (0, 0) k1; have n7f : w5.frozen? ⟨bw + 1, 7, none⟩ = false := (by simp only [World.frozen?, k1]; rfl))
          | (go_at_call 16; refine (clipI_calls Ap _ cp hrp.le hrp.max w5).mono ?_; rintro e w6 ⟨rfl, rfl⟩)
          | (refine wpList_load_row rfl 29 _ rfl (bw + 1) rfl _ _ _ _ (row_set 7 _ k1) Tryd.underlying29 rfl (by kernel_rfl) ?_)
          | (refine wpList_storeC bt _ _ _ _ _ _ _ _ _ rfl _ _ rfl rfl rfl ((ext_cellAt _ _ _ _).keep hb5 (by omega)) rfl (by simp [Value.oneCell']) (fun w7 hb7 hx7 => ?_)))
        try simp only [Exit.inBlock, Exit.then]
        refine bodyPost_ret (results_row_tmp rfl _ _ bt _ _ _ _ (.int .i64 0) rfl rfl hb7 Tryd.underlying29 rfl (by kernel_rfl)) rfl ?_
        have x5 := ext_cellAt w6 (bw + 1) 7 (.slice Ap c.preds.length c.preds.length)
        have xt := (((((hx23.drewN _).alloc _).trans hx5 (fun i hi e => by omega)).trans x5 (fun i hi e => by omega)).trans hx7 (fun i hi e => by omega))
        refine ⟨_, _, gb, gp, by rw [hv2.out], ?_, ?_, fun q hq => by have := k6 q hq; omega, fun q hq => by have := k7 q hq; omega, xt⟩
        · rw [hv2.out]
          exact (k2.keep x5 (fun q hq e => k4 (by rw [hq, e]))).keep hx7 (fun q hq e => by have := k6 q hq; omega)
        · rw [hv2.out]
          exact ((SlO.clip k3).keep x5 (fun q hq e => k5 (by rw [hq, e]))).keep hx7 (fun q hq e => by have := k7 q hq; omega)
end Go.Proofs.YtgiimmiandhkhaaDoor
