/- The bodies: read. -/
import Derived.Test.YtgiimmiandhkhaaDoorProg
import Derived.Test.YtgiimmiandhkhaaDoorBoE
import Derived.Test.YtgiimmiandhkhaaDoorIter
import Derived.Test.YtgiimmiandhkhaaDoorIns
import Derived.Laws.ResultCell
import Derived.Maps.RangeWalk
import Derived.Deep.LoopGhost
namespace Go.Proofs.YtgiimmiandhkhaaDoor
open Go.RowKit
set_option linter.unusedSimpArgs false
set_option linter.unusedVariables false
attribute [local go_sem] pairV strV

def atB (B : List ByteArray) (i : Nat) : Int := ((B[i]?).map (fun x => atV x.data.toList)).getD 0
/-- The op of a text's parts. -/
def readB (B : List ByteArray) : BOp × Bool :=
  if 3 < B.length then (⟨0, 0, 0⟩, false)
  else match wordsL.find? (fun x => decide (some x.2 = B[0]?)) with
    | some x => (⟨x.1.1, atB B 1, atB B 2⟩, decide (x.1.2 = (B.length : Int) - 1))
    | none => (⟨0, 0, 0⟩, false)

theorem words_find (x : (Int × Int) × ByteArray) (hx : x ∈ wordsL) (y : Option ByteArray) (h : some x.2 = y) : wordsL.find? (fun z => decide (some z.2 = y)) = some x := by
  subst h
  simp only [wordsL, List.mem_cons, List.not_mem_nil, or_false] at hx
  rcases hx with rfl | rfl | rfl | rfl | rfl <;> decide
theorem words_none (y : Option ByteArray) (h : ∀ x ∈ wordsL, some x.2 ≠ y) : wordsL.find? (fun z => decide (some z.2 = y)) = none := by
  rw [List.find?_eq_none]
  intro x hx
  simpa using h x hx

theorem str_of_toList {a b : ByteArray} (h : (a.toList == b.toList) = true) : a = b := by
  rw [beq_iff_eq, ByteArray.toList_eq, ByteArray.toList_eq] at h
  apply ByteArray.ext
  exact Array.toList_inj.1 h
def readS (s : List UInt8) : BOp × Bool := readB ((spl 32 s).map mk)
theorem mk_data (x : ByteArray) : mk x.data.toList = x := by
  unfold mk
  apply ByteArray.ext
  simp
theorem readS_eq (s : List UInt8) (B : List ByteArray) (h : B.map (fun x => x.data.toList) = spl 32 s) : readB B = readS s := by
  unfold readS
  rw [← h, List.map_map]
  congr 1
  rw [show (mk ∘ fun x : ByteArray => x.data.toList) = id from funext mk_data]
  simp

theorem Gl.keep' {F : Nat → Prop} {w w' : World} (h : Gl w) (x : Ext F w w') (hF : ∀ i, i < w.heap.size → F i → False) : Gl w' :=
  h.keep (Ext.of_below (x.below hF))
/-- An op is stored whole. -/
theorem wpList_storeO {ops : Array Oper} {rest : List Oper} {o : Oper} {a : Act} {w : World} {Q : Exit → Act → World → Prop} (bo : Nat) (k x y : Int) (old : Array Value) (hgd : o.guard = none) (p q : Operand) (ho : o.op = .store 81 p q)
    (hx : a.eval p = .pointer (some ⟨bo, 0, none⟩)) (hy : a.eval q = .agg #[.int .i64 k, .int .i64 x, .int .i64 y]) (hg : w.heap[bo]? = some (.cells old 81 (0, 0))) (h3 : old.size = 3)
    (h : ∀ w', w'.heap[bo]? = some (.cells #[.int .i64 k, .int .i64 x, .int .i64 y] 81 (0, 0)) → Ext (· = bo) w w' → wpList Tryd.prog ops Q rest (a.put o.dst undef) w') : wpList Tryd.prog ops Q (o :: rest) a w :=
  wpList_store_row hgd 81 p q ho bo #[.int .i64 k, .int .i64 x, .int .i64 y] hx hy _ old hg (by kernel_rfl) h3 (by simp [Value.oneCell'])
    (h _ (setRow_heap w bo old _ _ _ hg) ⟨rfl, rfl, rfl, by simp, fun j _ hj => setRow_other w bo j _ hj⟩)

theorem step_storeO {ops : Array Oper} {o : Oper} {a : Act} {w : World} {K : Act → World → Prop} {Q : Exit → Act → World → Prop} {X : Prop} (bo : Nat) (k x y : Int) (old : Array Value) (hgd : o.guard = none) (p q : Operand) (ho : o.op = .store 81 p q)
    (hx : a.eval p = .pointer (some ⟨bo, 0, none⟩)) (hy : a.eval q = .agg #[.int .i64 k, .int .i64 x, .int .i64 y]) (hg : w.heap[bo]? = some (.cells old 81 (0, 0))) (h3 : old.size = 3)
    (h : ∀ w', w'.heap[bo]? = some (.cells #[.int .i64 k, .int .i64 x, .int .i64 y] 81 (0, 0)) → Ext (· = bo) w w' → K (a.put o.dst undef) w') :
    if Region.wanted o (yielded ops a.tmps) = true then Oper.wp Tryd.prog o a w K Q else X := by
  have hw : Region.wanted o (yielded ops a.tmps) = true := by simp [Region.wanted, hgd]
  rw [if_pos hw]
  exact wp_store_row 81 p q ho bo #[.int .i64 k, .int .i64 x, .int .i64 y] hx hy _ old hg (by kernel_rfl) h3 (by simp [Value.oneCell'])
    (h _ (setRow_heap w bo old _ _ _ hg) ⟨rfl, rfl, rfl, by simp, fun j _ hj => setRow_other w bo j _ hj⟩)

set_option maxRecDepth 20000 in
set_option maxHeartbeats 4000000 in
theorem read_calls (s : ByteArray) (w : World) (hG : Gl w) (hs : s.size < 4294967281) :
    Calls Tryd.prog 46 #[.string s] w fun e w' => e = .returned (.tuple #[.agg #[.int .i64 (readS s.data.toList).1.k, .int .i64 (readS s.data.toList).1.a, .int .i64 (readS s.data.toList).1.b], .bool (readS s.data.toList).2]) ∧ Ext NoB w w' := by
  have hx0 : Ext NoB w (w.alloc (.cells #[.int .i64 0, .int .i64 0, .int .i64 0] 81)) := (Ext.refl NoB w).alloc _
  have hb0 := alloc_at w (.cells #[.int .i64 0, .int .i64 0, .int .i64 0] 81)
  generalize hRd : readS s.data.toList = R
  have hRd := Lib.hid hRd
  go_enter Tryd.func46, Tryd.ntmps46
  go_wp2_with fail
  obtain ⟨bo, hbo⟩ : ∃ bo, w.heap.size = bo := ⟨_, rfl⟩
  rw [hbo] at hb0 ⊢
  refine (split_calls s 32 hs _ (hG.keep hx0)).mono ?_
  rintro e w1 ⟨bs, B, rfl, hB, hB1, hx1⟩
  have hR : Hid (readB B = R) := by show _ = _; rw [readS_eq s.data.toList B hB]; exact hRd.out
  have hx01 := hx0.trans hx1 (fun _ _ e => e)
  have hb1 := hx1.keep hb0 nb
  have hbow : w.heap.size ≤ bo := by omega
  have hGw := Lib.hid hG
  have hsz : Hid (∀ x ∈ B, x.size ≤ 281474976710656) := by
    show ∀ x ∈ B, _
    intro x hx
    have hm : x.data.toList ∈ spl 32 s.data.toList := by rw [← hB]; exact List.mem_map.2 ⟨x, hx, rfl⟩
    have := (spl_mem 32 _ _ hm).1
    simp only [Array.length_toList] at this
    have e1 : x.size = x.data.size := rfl
    have e2 : s.size = s.data.size := rfl
    omega
  have hne : B.length ≠ 0 := by
    intro e
    have : (B.map (fun x => x.data.toList)).length = 0 := by rw [List.length_map]; exact e
    rw [hB] at this
    exact spl_ne 32 _ (List.eq_nil_of_length_eq_zero this)
  clear hb0 hx0 hx1 hB hG
  by_cases h3 : 3 < B.length
  · have t0 : decide (3 < B.length) = true := by simp [h3]
    have t0' : decide ((3 : Int) < B.length) = true := by simp; omega
    have hv : Hid (R = (⟨0, 0, 0⟩, false)) := by show _ = _; rw [← hR.out]; unfold readB; rw [if_pos h3]
    go_wp2_with (refine wpList_storeO bo 0 0 0 _ rfl _ _ rfl rfl rfl (((Ext.refl NoB _).alloc _).keep hb1 nb) rfl (fun w2 hb2 hx2 => ?_))
    have q0 : w2.cell? ⟨bo, 0, none⟩ = some (.int .i64 0) := by rw [cell_of_row w2 bo 0 _ _ (0, 0) hb2]; rfl
    have q1 : w2.cell? ⟨bo, 1, none⟩ = some (.int .i64 0) := by rw [cell_of_row w2 bo 1 _ _ (0, 0) hb2]; rfl
    have q2 : w2.cell? ⟨bo, 2, none⟩ = some (.int .i64 0) := by rw [cell_of_row w2 bo 2 _ _ (0, 0) hb2]; rfl
    try simp only [Exit.inBlock, Exit.then]
    refine bodyPost_ret (v := .tuple #[.agg #[.int .i64 0, .int .i64 0, .int .i64 0], .bool false]) (by rw [results_cell_tmp rfl]; simp [asAddr, go_sem, q0, q1, q2]) rfl ⟨by rw [hv.out], ?_⟩
    exact (hx01.alloc _).trans hx2 (fun i hi e => by omega)
  · have t0 : decide (3 < B.length) = false := by simp; omega
    have t0' : decide ((3 : Int) < B.length) = false := by simp; omega
    have ti : (B.length : Int) - 1 = ((B.length - 1 : Nat) : Int) := by omega
    obtain ⟨A, hA⟩ : ∃ A : Addr, (if B.length = 1 then (⟨bs, 0, none⟩ : Addr) else ⟨bs, 1, none⟩) = A := ⟨_, rfl⟩
    have hsl1 : ∀ w' : World, (Instr.slice 38 (.slice (some ⟨bs, 0, none⟩) B.length B.length) (some (.int .i64 1)) none none).run Tryd.prog w' = .ok (.slice (some A) (B.length - 1) (B.length - 1)) w' := by
      intro w'
      have h1 : (1 : Int) ≤ (B.length : Int) := by omega
      rw [run_slice_l (ht := Tryd.underlying38) (h0 := by decide) (h1 := h1)]
      subst hA
      by_cases h1 : B.length = 1 <;> simp [go_sem, h1]
    have hA' := Lib.hid hA
    clear hA
    go_wp2_with fail
    have hbn := alloc_at w1 (.cells #[.int .i64 0, .int .i64 0] 52)
    have hxn : Ext NoB w1 (w1.alloc (.cells #[.int .i64 0, .int .i64 0] 52)) := (Ext.refl NoB w1).alloc _
    have hlt := lt_of_block hb1
    have hB2 := hB1.keep hxn nb1
    have hb2 := hxn.keep hb1 nb
    obtain ⟨bn, hbn'⟩ : ∃ bn, w1.heap.size = bn := ⟨_, rfl⟩
    have hnb : bn ≠ bo := by omega
    have hns : bs < bn := by
      rw [← hbn']
      exact World.block_lt_of_cell? w1 _ (str_cells hB1 0 _ (List.getElem?_eq_getElem (by omega)))
    have hnw : w.heap.size ≤ bn := by rw [← hbn']; exact hx01.size
    rw [hbn'] at hbn ⊢
    have hx02 := hx01.trans hxn (fun _ _ e => e)
    generalize w1.alloc (.cells #[.int .i64 0, .int .i64 0] 52) = w2 at *
    clear hlt hbn' hxn hB1 hb1 hsl1 hx01 hbo
    go_loopw [19] (fun i wr => ∃ j : Nat, j ≤ B.length - 1 ∧ i = .int .i64 j ∧ Ext (· = bn) w2 wr ∧ wr.heap[bn]? = some (.cells #[.int .i64 (if 0 < j then atB B 1 else 0), .int .i64 (if 1 < j then atB B 2 else 0)] 52 (0, 0))) (fun i _ => B.length - (intOf i).toNat)
    case atStart => exact ⟨0, Nat.zero_le _, rfl, Ext.refl _ _, hbn⟩
    case round =>
      obtain ⟨j, hj, rfl, hext, hbr⟩ := hrel
      have hBr := hB2.keep hext (fun _ => by omega)
      by_cases hjl : j < B.length - 1
      · have t1 : decide (j < B.length - 1) = true := by simp [hjl]
        have hA1 : A = ⟨bs, 1, none⟩ := by rw [← hA'.out, if_neg (by omega)]
        subst hA1
        have e0 := str_cells hBr (1 + j) _ (List.getElem?_eq_getElem (by omega))
        have hz := hsz.out _ (List.getElem_mem (l := B) (n := 1 + j) (by omega))
        have hat : Hid (atB B (1 + j) = atV (B[1 + j]'(by omega)).data.toList) := by show _ = _; unfold atB; rw [List.getElem?_eq_getElem (by omega)]; rfl
        rw [Nat.zero_add] at e0
        generalize B[1 + j]'(by omega) = xj at *
        have g0 : wr.frozen? ⟨bn, 0 + j, none⟩ = false := by simp [World.frozen?, hbr]
        have hset : ∀ (wz : World) (v : Int), Ext NoB wr wz → ∃ cs : Array Value, (wz.setCell ⟨bn, j, none⟩ (.int .i64 v)).heap[bn]? = some (.cells cs 52 (0, 0)) ∧ cs = (#[.int .i64 (if 0 < j then atB B 1 else 0), .int .i64 (if 1 < j then atB B 2 else 0)] : Array Value).setIfInBounds j (.int .i64 v) := fun wz v hz => ⟨_, heap_setCell_same _ _ _ _ _ _ (hz.keep hbr nb), rfl⟩
        have hset := Lib.hid hset
        have hcz : ∀ wz : World, Ext NoB wr wz → ∃ u, wz.cell? ⟨bn, j, none⟩ = some u := fun wz hz => by
          rw [cell_of_row wz bn j _ _ (0, 0) (hz.keep hbr nb)]
          have : j = 0 ∨ j = 1 := by omega
          rcases this with rfl | rfl
          · exact ⟨_, rfl⟩
          · exact ⟨_, rfl⟩
        have hcz := Lib.hid hcz
        go_wp2_with fail
        refine (atoi_calls xj hz wr (hGw.out.keep (hx02.trans hext (fun i hi e => by omega)))).mono ?_
        rintro e w3 ⟨ev, rfl, hx3⟩
        obtain ⟨u0, hu0⟩ := hcz.out w3 hx3
        have g1 : w3.frozen? ⟨bn, j, none⟩ = false := by simp [World.frozen?, hx3.keep hbr nb]
        have t2 : decide (j < 2) = true := by simp; omega
        go_wp2_with fail
        obtain ⟨cs, hcs1, hcs2⟩ := hset.out w3 (atV xj.data.toList) hx3
        refine ⟨⟨j + 1, by omega, by go_num, (hext.trans hx3 (fun _ _ e => e.elim)).setCell (fun _ => rfl) _, ?_⟩, by simp [intOf]; omega⟩
        rw [hcs1, hcs2]
        have : j = 0 ∨ j = 1 := by omega
        rcases this with rfl | rfl
        · rw [hat.out.symm]; rfl
        · rw [hat.out.symm]; rfl
      · have t1 : decide (j < B.length - 1) = false := by simp [hjl]
        obtain rfl : j = B.length - 1 := by omega
        have hrow : wr.heap[bn]? = some (.cells #[.int .i64 (atB B 1), .int .i64 (atB B 2)] 52 (0, 0)) := by
          rw [hbr]
          have p1 : (if 0 < B.length - 1 then atB B 1 else 0) = atB B 1 := by
            split
            · rfl
            · unfold atB; rw [List.getElem?_eq_none (by omega)]; rfl
          have p2 : (if 1 < B.length - 1 then atB B 2 else 0) = atB B 2 := by
            split
            · rfl
            · unfold atB; rw [List.getElem?_eq_none (by omega)]; rfl
          rw [p1, p2]
        clear hbr hbn
        have hx0r := hx02.trans hext (fun i hi e => by omega)
        have hbo2 := hext.keep hb2 (fun e => hnb e.symm)
        clear hext hb2 hB2 hx02
        go_wp2_with fail
        refine (words_calls wr).mono ?_
        rintro e w4 ⟨r, m, rfl, hM, hp, hx4, hrw⟩
        have hBr4 := hBr.keep hx4 nb1
        have hrow4 := hx4.keep hrow nb
        have hbo4 := hx4.keep hbo2 nb
        have hx04 := hx0r.trans hx4 (fun _ _ e => e)
        clear hBr hrow hbo2 hx0r hx4
        go_wp2_with (at_range; refine wpList_range rfl rfl Tryd.underlying102 hM rfl ?_; intro it w5 hit hI hx5)
        go_frame
        have hbs4 : bs < w4.heap.size := World.block_lt_of_cell? w4 _ (str_cells hBr4 0 _ (List.getElem?_eq_getElem (by omega)))
        have hbo5 := hx5.keep hbo4 nb
        have hrow5 := hx5.keep hrow4 nb
        have hB5 := hBr4.keep hx5 nb1
        have ho4 := lt_of_block hbo4
        have hn4 := lt_of_block hrow4
        have hitw : w.heap.size ≤ it := by have := hx04.size; omega
        have hx05 := hx04.trans hx5 (fun _ _ e => e)
        have hp' := Lib.hid hp
        clear hbo4 hrow4 hBr4 hx5 hx04 hM hp hrw
        obtain ⟨B0, hB0⟩ : ∃ B0, B[0]? = some B0 := ⟨_, List.getElem?_eq_getElem (by omega)⟩
        have hB0' := Lib.hid hB0
        have hm0 : ∀ x ∈ m, some x.2 = B[0]? → x ∈ m := fun x hx _ => hx
        go_loopg [3] (m.length) (fun k v wr => ∃ cur left, left.length = k ∧ v = .bool false ∧ IterAt wr it r (pairV .i64) strV m cur left ∧ (∀ x ∈ m, some x.2 = B[0]? → x ∈ left) ∧ (∀ x ∈ left, x ∈ m) ∧ Ext (· = it) w5 wr)
        case atStart => exact ⟨none, m, rfl, rfl, hI, hm0, fun _ h => h, Ext.refl _ _⟩
        case round =>
          obtain ⟨cur, left, rfl, rfl, hIr, hin, hsub, hextr⟩ := hrel
          have hin := Lib.hid hin
          have hsub := Lib.hid hsub
          have hbo6 := hextr.keep hbo5 (by omega)
          have hrow6 := hextr.keep hrow5 (by omega)
          have c0 := str_cells (hB5.keep hextr (fun _ => by omega)) 0 B0 hB0
          rw [Nat.zero_add] at c0
          clear hI hbo5 hrow5 hB5 hB0
          go_wp2_with (first
            | (at_next; refine wpList_next rfl rfl hIr rfl (fun h0 => ?_) (fun l1 x l2 w7 hl hI2 hx7 hen => have c7 : w7.cell? ⟨bs, 0, none⟩ = some (.string B0) := hx7.cell c0 (fun e => by simp at e; omega); have c8 : ∀ o, (w7.alloc o).cell? ⟨bs, 0, none⟩ = some (.string B0) := fun o => Ext.cell ((Ext.refl NoB w7).alloc o) c7 nb; ?_))
            | (refine wpList_storeO bo 0 0 0 _ rfl _ _ rfl rfl rfl hbo6 rfl (fun w7 hb7 hx7 => ?_)))
          · try simp only [Exit.inBlock, Exit.then]
            have q0 : w7.cell? ⟨bo, 0, none⟩ = some (.int .i64 0) := by rw [cell_of_row w7 bo 0 _ _ (0, 0) hb7]; rfl
            have q1 : w7.cell? ⟨bo, 1, none⟩ = some (.int .i64 0) := by rw [cell_of_row w7 bo 1 _ _ (0, 0) hb7]; rfl
            have q2 : w7.cell? ⟨bo, 2, none⟩ = some (.int .i64 0) := by rw [cell_of_row w7 bo 2 _ _ (0, 0) hb7]; rfl
            have hv : Hid (R = (⟨0, 0, 0⟩, false)) := by
              show _ = _
              rw [← hR.out]
              unfold readB
              rw [if_neg h3, words_none]
              intro x hx he
              have := hin.out x (hp'.out.symm.mem_iff.1 hx) he
              rw [h0] at this
              simp at this
            refine bodyPost_ret (v := .tuple #[.agg #[.int .i64 0, .int .i64 0, .int .i64 0], .bool false]) (by rw [results_cell_tmp rfl]; simp [asAddr, go_sem, q0, q1, q2]) rfl ⟨by rw [hv.out], ?_⟩
            exact (hx05.trans hextr (fun i hi e => by omega)).trans hx7 (fun i hi e => by omega)
          · obtain ⟨⟨xk, xi⟩, xs⟩ := x
            dsimp only at *
            have hbp := alloc_at w7 (.cells #[.int .i64 xk, .int .i64 xi] 104)
            have hx8 : Ext NoB w7 (w7.alloc (.cells #[.int .i64 xk, .int .i64 xi] 104)) := (Ext.refl NoB w7).alloc _
            have hbo8 := hx8.keep (hx7.keep hbo6 (by omega)) nb
            have hbn8 := hx8.keep (hx7.keep hrow6 (by omega)) nb
            have hbpo : w7.heap.size ≠ bo := by have := lt_of_block (hx7.keep hbo6 (by omega)); omega
            obtain ⟨bp, hbp'⟩ : ∃ bp, w7.heap.size = bp := ⟨_, rfl⟩
            rw [hbp'] at hbp hbpo ⊢
            clear hbp'
            generalize w7.alloc (.cells #[.int .i64 xk, .int .i64 xi] 104) = w8 at *
            have s1 : w8.cell? ⟨bp, 0, none⟩ = some (.int .i64 xk) := by rw [cell_of_row w8 bp 0 _ _ (0, 0) hbp]; rfl
            have s2 : w8.cell? ⟨bp, 1, none⟩ = some (.int .i64 xi) := by rw [cell_of_row w8 bp 1 _ _ (0, 0) hbp]; rfl
            have s3 : w8.cell? ⟨bn, 0, none⟩ = some (.int .i64 (atB B 1)) := by rw [cell_of_row w8 bn 0 _ _ (0, 0) hbn8]; rfl
            have s4 : w8.cell? ⟨bn, 1, none⟩ = some (.int .i64 (atB B 2)) := by rw [cell_of_row w8 bn 1 _ _ (0, 0) hbn8]; rfl
            -- R14
            refine wp_region_V 15 (fun w' => w'.cell? ⟨bp, 0, none⟩ = some (.int .i64 xk) ∧ w'.cell? ⟨bp, 1, none⟩ = some (.int .i64 xi) ∧ w'.cell? ⟨bn, 0, none⟩ = some (.int .i64 (atB B 1)) ∧ w'.cell? ⟨bn, 1, none⟩ = some (.int .i64 (atB B 2))) (by kernel_rfl) ?_
            try simp only [Act.put, List.setIfInBounds_toArray, List.set_cons_zero, List.set_cons_succ]
            refine wpAnyV_take0 (i := 0) (by kernel_rfl) (by kernel_rfl) (by kernel_rfl) (by kernel_rfl) (by kernel_rfl) ⟨s1, s2, s3, s4⟩ (fun o ho => ?_)
            conv at ho => rhs; whnf
            subst ho
            refine ⟨?_, fun _ _ _ h => h, Or.inl ⟨by rfl, ?_⟩, ?_⟩
            rotate_left
            · intro w hSw
              try dsimp only at hSw
              try obtain ⟨z1, z2, z3, z4⟩ := hSw
              first | (go_simp; done) | (go_simp; with_reducible rfl)
            try simp only [Act.put, List.setIfInBounds_toArray, List.set_cons_zero, List.set_cons_succ]
            refine wpAnyV_take0 (i := 1) (by kernel_rfl) (by kernel_rfl) (by kernel_rfl) (by kernel_rfl) (by kernel_rfl) ⟨s1, s2, s3, s4⟩ (fun o ho => ?_)
            conv at ho => rhs; whnf
            subst ho
            refine ⟨?_, fun _ _ _ h => h, Or.inl ⟨by rfl, ?_⟩, ?_⟩
            rotate_left
            · intro w hSw
              try dsimp only at hSw
              try obtain ⟨z1, z2, z3, z4⟩ := hSw
              first | (go_simp; done) | (go_simp; with_reducible rfl)
            try simp only [Act.put, List.setIfInBounds_toArray, List.set_cons_zero, List.set_cons_succ]
            refine wpAnyV_take0 (i := 2) (by kernel_rfl) (by kernel_rfl) (by kernel_rfl) (by kernel_rfl) (by kernel_rfl) ⟨s1, s2, s3, s4⟩ (fun o ho => ?_)
            conv at ho => rhs; whnf
            subst ho
            refine ⟨?_, fun _ _ _ h => h, Or.inl ⟨by rfl, ?_⟩, ?_⟩
            rotate_left
            · intro w hSw
              try dsimp only at hSw
              try obtain ⟨z1, z2, z3, z4⟩ := hSw
              first | (go_simp; done) | (go_simp; with_reducible rfl)
            try simp only [Act.put, List.setIfInBounds_toArray, List.set_cons_zero, List.set_cons_succ]
            refine wpAnyV_take0 (i := 3) (by kernel_rfl) (by kernel_rfl) (by kernel_rfl) (by kernel_rfl) (by kernel_rfl) ⟨s1, s2, s3, s4⟩ (fun o ho => ?_)
            conv at ho => rhs; whnf
            subst ho
            refine ⟨?_, fun _ _ _ h => h, Or.inl ⟨by rfl, ?_⟩, ?_⟩
            rotate_left
            · intro w hSw
              try dsimp only at hSw
              try obtain ⟨z1, z2, z3, z4⟩ := hSw
              first | (go_simp; done) | (go_simp; with_reducible rfl)
            try simp only [Act.put, List.setIfInBounds_toArray, List.set_cons_zero, List.set_cons_succ]
            refine wpAnyV_take0 (i := 4) (by kernel_rfl) (by kernel_rfl) (by kernel_rfl) (by kernel_rfl) (by kernel_rfl) ⟨s1, s2, s3, s4⟩ (fun o ho => ?_)
            conv at ho => rhs; whnf
            subst ho
            refine ⟨?_, fun _ _ _ h => h, Or.inl ⟨by rfl, ?_⟩, ?_⟩
            rotate_left
            · intro w hSw
              try dsimp only at hSw
              try obtain ⟨z1, z2, z3, z4⟩ := hSw
              first | (go_simp; done) | (go_simp; with_reducible rfl)
            try simp only [Act.put, List.setIfInBounds_toArray, List.set_cons_zero, List.set_cons_succ]
            refine wpAnyV_take0 (i := 5) (by kernel_rfl) (by kernel_rfl) (by kernel_rfl) (by kernel_rfl) (by kernel_rfl) ⟨s1, s2, s3, s4⟩ (fun o ho => ?_)
            conv at ho => rhs; whnf
            subst ho
            refine ⟨?_, fun _ _ _ h => h, Or.inl ⟨by rfl, ?_⟩, ?_⟩
            rotate_left
            · intro w hSw
              try dsimp only at hSw
              try obtain ⟨z1, z2, z3, z4⟩ := hSw
              first | (go_simp; done) | (go_simp; with_reducible rfl)
            try simp only [Act.put, List.setIfInBounds_toArray, List.set_cons_zero, List.set_cons_succ]
            refine wpAnyV_take0 (i := 6) (by kernel_rfl) (by kernel_rfl) (by kernel_rfl) (by kernel_rfl) (by kernel_rfl) ⟨s1, s2, s3, s4⟩ (fun o ho => ?_)
            conv at ho => rhs; whnf
            subst ho
            refine ⟨?_, fun _ _ _ h => h, Or.inl ⟨by rfl, ?_⟩, ?_⟩
            rotate_left
            · intro w hSw
              try dsimp only at hSw
              try obtain ⟨z1, z2, z3, z4⟩ := hSw
              first | (go_simp; done) | (go_simp; with_reducible rfl)
            try simp only [Act.put, List.setIfInBounds_toArray, List.set_cons_zero, List.set_cons_succ]
            refine wpAnyV_take0 (i := 7) (by kernel_rfl) (by kernel_rfl) (by kernel_rfl) (by kernel_rfl) (by kernel_rfl) ⟨s1, s2, s3, s4⟩ (fun o ho => ?_)
            conv at ho => rhs; whnf
            subst ho
            refine ⟨?_, fun _ _ _ h => h, Or.inl ⟨by rfl, ?_⟩, ?_⟩
            rotate_left
            · intro w hSw
              try dsimp only at hSw
              try obtain ⟨z1, z2, z3, z4⟩ := hSw
              first | (go_simp; done) | (go_simp; with_reducible rfl)
            try simp only [Act.put, List.setIfInBounds_toArray, List.set_cons_zero, List.set_cons_succ]
            refine wpAnyV_take0 (i := 8) (by kernel_rfl) (by kernel_rfl) (by kernel_rfl) (by kernel_rfl) (by kernel_rfl) ⟨s1, s2, s3, s4⟩ (fun o ho => ?_)
            conv at ho => rhs; whnf
            subst ho
            refine ⟨?_, fun _ _ _ h => h, Or.inl ⟨by rfl, ?_⟩, ?_⟩
            rotate_left
            · intro w hSw
              try dsimp only at hSw
              try obtain ⟨z1, z2, z3, z4⟩ := hSw
              first | (go_simp; done) | (go_simp; with_reducible rfl)
            try simp only [Act.put, List.setIfInBounds_toArray, List.set_cons_zero, List.set_cons_succ]
            refine wpAnyV_take0 (i := 9) (by kernel_rfl) (by kernel_rfl) (by kernel_rfl) (by kernel_rfl) (by kernel_rfl) ⟨s1, s2, s3, s4⟩ (fun o ho => ?_)
            conv at ho => rhs; whnf
            subst ho
            refine ⟨?_, fun _ _ _ h => h, Or.inl ⟨by rfl, ?_⟩, ?_⟩
            rotate_left
            · intro w hSw
              try dsimp only at hSw
              try obtain ⟨z1, z2, z3, z4⟩ := hSw
              first | (go_simp; done) | (go_simp; with_reducible rfl)
            try simp only [Act.put, List.setIfInBounds_toArray, List.set_cons_zero, List.set_cons_succ]
            refine wpAnyV_take0 (i := 10) (by kernel_rfl) (by kernel_rfl) (by kernel_rfl) (by kernel_rfl) (by kernel_rfl) ⟨s1, s2, s3, s4⟩ (fun o ho => ?_)
            conv at ho => rhs; whnf
            subst ho
            refine ⟨?_, fun _ _ _ h => h, Or.inl ⟨by rfl, ?_⟩, ?_⟩
            rotate_left
            · intro w hSw
              try dsimp only at hSw
              try obtain ⟨z1, z2, z3, z4⟩ := hSw
              first | (go_simp; done) | (go_simp; with_reducible rfl)
            try simp only [Act.put, List.setIfInBounds_toArray, List.set_cons_zero, List.set_cons_succ]
            refine wpAnyV_take0 (i := 11) (by kernel_rfl) (by kernel_rfl) (by kernel_rfl) (by kernel_rfl) (by kernel_rfl) ⟨s1, s2, s3, s4⟩ (fun o ho => ?_)
            conv at ho => rhs; whnf
            subst ho
            refine ⟨?_, fun _ _ _ h => h, Or.inl ⟨by rfl, ?_⟩, ?_⟩
            rotate_left
            · intro w hSw
              try dsimp only at hSw
              try obtain ⟨z1, z2, z3, z4⟩ := hSw
              first | (go_simp; done) | (go_simp; with_reducible rfl)
            try simp only [Act.put, List.setIfInBounds_toArray, List.set_cons_zero, List.set_cons_succ]
            refine wpAnyV_take0 (i := 12) (by kernel_rfl) (by kernel_rfl) (by kernel_rfl) (by kernel_rfl) (by kernel_rfl) ⟨s1, s2, s3, s4⟩ (fun o ho => ?_)
            conv at ho => rhs; whnf
            subst ho
            refine ⟨?_, fun _ _ _ h => h, Or.inl ⟨by rfl, ?_⟩, ?_⟩
            rotate_left
            · intro w hSw
              try dsimp only at hSw
              try obtain ⟨z1, z2, z3, z4⟩ := hSw
              first | (go_simp; done) | (go_simp; with_reducible rfl)
            try simp only [Act.put, List.setIfInBounds_toArray, List.set_cons_zero, List.set_cons_succ]
            refine wpAnyV_one (i := 13) (by kernel_rfl) (by kernel_rfl) (fun o ho K hK => ?_)
            conv at ho => rhs; whnf
            subst ho
            refine step_storeO bo xk (atB B 1) (atB B 2) _ rfl _ _ rfl rfl rfl hbo8 rfl (fun w9 hb9 hx9 => ?_)
            try go_simp
            have y1 := hx9.cell s1 (fun e => hbpo e)
            have y2 := hx9.cell s2 (fun e => hbpo e)
            have y3 := hx9.cell s3 (fun e => hnb e)
            have y4 := hx9.cell s4 (fun e => hnb e)
            refine hK.out _ _ (Or.inr ⟨y1, y2, y3, y4⟩) ?_
            clear hK K
            try simp only [Act.put, List.setIfInBounds_toArray, List.set_cons_zero, List.set_cons_succ]
            refine wpAnyV_one (i := 14) (by kernel_rfl) (by kernel_rfl) (fun o ho K hK => ?_)
            conv at ho => rhs; whnf
            subst ho
            go_simp
            refine hK.out _ _ (Or.inr ⟨y1, y2, y3, y4⟩) ?_
            clear hK K
            try simp only [Act.put, List.setIfInBounds_toArray, List.set_cons_zero, List.set_cons_succ]
            refine wpAnyV_done (by kernel_rfl) ?_ _
            -- /R14
            have hxe : xs = B0 := str_of_toList (by assumption)
            have hv : Hid (R = (⟨xk, atB B 1, atB B 2⟩, decide (xi = (B.length : Int) - 1))) := by
              show _ = _
              rw [← hR.out]
              unfold readB
              rw [if_neg h3, words_find ((xk, xi), xs) (hp'.out.mem_iff.1 (hsub.out _ (by rw [hl]; simp))) _ (by rw [hB0'.out, hxe])]
            have q0 : w9.cell? ⟨bo, 0, none⟩ = some (.int .i64 xk) := by rw [cell_of_row w9 bo 0 _ _ (0, 0) hb9]; rfl
            have q1 : w9.cell? ⟨bo, 1, none⟩ = some (.int .i64 (atB B 1)) := by rw [cell_of_row w9 bo 1 _ _ (0, 0) hb9]; rfl
            have q2 : w9.cell? ⟨bo, 2, none⟩ = some (.int .i64 (atB B 2)) := by rw [cell_of_row w9 bo 2 _ _ (0, 0) hb9]; rfl
            have hbe : Hid ((xi == IntKind.i64.wrap ((B.length - 1 : Nat) : Int)) = decide (xi = (B.length : Int) - 1)) := by
              show _ = _
              rw [show IntKind.i64.wrap ((B.length - 1 : Nat) : Int) = (B.length : Int) - 1 from by rw [wrap_small _ (by omega) (by omega)]; omega]
              rw [Bool.eq_iff_iff, beq_iff_eq, decide_eq_true_iff]
            generalize (xi == IntKind.i64.wrap ((B.length - 1 : Nat) : Int)) = vb at *
            go_wp2_with fail
            try simp only [Exit.inBlock, Exit.then]
            refine bodyPost_ret (v := .tuple #[.agg #[.int .i64 xk, .int .i64 (atB B 1), .int .i64 (atB B 2)], .bool vb]) (by rw [results_cell_tmp rfl]; simp [asAddr, go_sem, q0, q1, q2]) rfl ⟨by rw [hv.out, hbe.out], ?_⟩
            exact (((hx05.trans hextr (fun i hi e => by omega)).trans hx7 (fun i hi e => by omega)).trans (hx8.drew) (fun _ _ e => e)).trans hx9 (fun i hi e => by omega)
          · obtain ⟨⟨xk, xi⟩, xs⟩ := x
            have hxe : some xs ≠ B[0]? := by
              rw [hB0'.out]
              intro e
              cases e
              have : (B0.toList == B0.toList) = false := by assumption
              simp at this
            go_roundg ((l1 ++ l2).length)
            case measure => rw [hl]; simp
            case rel =>
              refine ⟨_, _, rfl, rfl, hI2.keep ((Ext.refl NoB w7).alloc _) nb nb, fun y hy he => ?_, fun y hy => hsub.out y (by rw [hl]; simp only [List.mem_append, List.mem_cons] at hy ⊢; rcases hy with h | h; exact .inl h; exact .inr (.inr h)), (hextr.trans hx7 (fun _ _ e => e)).alloc _⟩
              have := hin.out y hy he
              rw [hl] at this
              simp only [List.mem_append, List.mem_cons] at this ⊢
              rcases this with h | rfl | h
              · exact .inl h
              · exact absurd he hxe
              · exact .inr h
end Go.Proofs.YtgiimmiandhkhaaDoor
