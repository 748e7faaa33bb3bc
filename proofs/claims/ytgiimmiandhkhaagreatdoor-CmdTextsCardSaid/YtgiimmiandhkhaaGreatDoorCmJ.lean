/- The commands: the document's Parse. Printed by gen-cmj.py. -/
import Derived.Test.YtgiimmiandhkhaaGreatDoorProg
import Derived.Test.YtgiimmiandhkhaaGreatDoorCmI
namespace Go.Proofs.YtgiimmiandhkhaaGreatDoor
open Go.RowKit
set_option linter.unusedSimpArgs false
set_option linter.unusedVariables false

def formsL : List (List UInt8) := [cmForm 1, cmForm 2, cmForm 3, cmForm 4, cmForm 5, cmForm 6, cmForm 7, cmForm 8, cmForm 9, cmForm 10, cmForm 11, cmForm 12, cmForm 13, cmForm 14]
theorem forms_get (i : Nat) (h : i < 14) : formsL[i]? = some (cmForm (i + 1)) := by
  have : i = 0 ∨ i = 1 ∨ i = 2 ∨ i = 3 ∨ i = 4 ∨ i = 5 ∨ i = 6 ∨ i = 7 ∨ i = 8 ∨ i = 9 ∨ i = 10 ∨ i = 11 ∨ i = 12 ∨ i = 13 := by omega
  rcases this with rfl | rfl | rfl | rfl | rfl | rfl | rfl | rfl | rfl | rfl | rfl | rfl | rfl | rfl <;> rfl
theorem SlR.made {α : Type} {w : World} {k : Nat} {enc : α → List Value} {xs : List α} {E : TypeId} {b : Nat} {cs : Array Value} (h : w.heap[b]? = some (.cells cs E (0, 0))) (hcs : cs.toList = xs.flatMap enc) (hm : xs.length ≤ maxLen) : SlR w k enc (some ⟨b, 0, none⟩) xs.length b 0 xs := by
  refine ⟨fun _ => rfl, Nat.le_refl _, hm, fun j u hu => ?_⟩
  rw [cell_of_row w b (0 + j) _ _ (0, 0) h, Nat.zero_add, ← hu, ← hcs]
  simp
set_option maxRecDepth 20000 in
theorem rows_calls (w : World) : Calls Tryz.prog 17 #[] w fun e w' => ∃ b1 b2, e = .returned (.tuple #[.slice (some ⟨b1, 0, none⟩) 14 14, .slice (some ⟨b2, 0, none⟩) 14 14]) ∧ SlR w' 1 strE (some ⟨b1, 0, none⟩) 14 b1 0 (cmNames.map mk) ∧ SlR w' 1 strE (some ⟨b2, 0, none⟩) 14 b2 0 (formsL.map mk) ∧ Ext NoB w w' := by
  go_enter Tryz.func17, Tryz.ntmps17
  go_wp2_with fail
  go_ret2
  refine ⟨w.heap.size, w.heap.size + 1, rfl, ?_, ?_, ((Ext.refl NoB w).alloc _).alloc _⟩
  · exact SlR.made (xs := cmNames.map mk) (((Ext.refl NoB _).alloc _).keep (alloc_at w _) nb) rfl (by show 14 ≤ maxLen; decide)
  · exact SlR.made (xs := formsL.map mk) (alloc_at' _ _ _ (by simp)) rfl (by show 14 ≤ maxLen; decide)
def strLen : Value → Nat | .string s => s.size | _ => 0
theorem takeV_keeps {c c' : Cm} {f : UInt8} {w : List UInt8} (h : takeV c f w = some c') : c'.k = c.k ∧ c'.preds.length ≤ c.preds.length + 1 := by
  unfold takeV at h
  split at h
  · split at h
    · cases h; exact ⟨rfl, by simp⟩
    · cases h
  · split at h
    · obtain ⟨v, _, rfl⟩ := Option.map_eq_some_iff.1 h; exact ⟨rfl, by simp⟩
    · split at h
      · obtain ⟨v, _, rfl⟩ := Option.map_eq_some_iff.1 h; exact ⟨rfl, by simp⟩
      · split at h
        · obtain ⟨v, _, rfl⟩ := Option.map_eq_some_iff.1 h; exact ⟨rfl, by simp⟩
        · split at h
          · obtain ⟨v, _, rfl⟩ := Option.map_eq_some_iff.1 h; exact ⟨rfl, by simp⟩
          · split at h
            · obtain ⟨v, _, rfl⟩ := Option.map_eq_some_iff.1 h; exact ⟨rfl, by simp⟩
            · split at h
              · obtain ⟨v, _, rfl⟩ := Option.map_eq_some_iff.1 h; exact ⟨rfl, by simp⟩
              · obtain ⟨v, _, rfl⟩ := Option.map_eq_some_iff.1 h; exact ⟨rfl, by simp⟩
theorem form_last (k : Nat) (h1 : k ≠ 1) : ∀ F x, cmForm k = F ++ [x] → x ≠ 108 := by
  intro F x h
  have hx : x ∈ cmForm k := by rw [h]; simp
  intro e
  subst e
  unfold cmForm at hx
  split at hx <;> first | exact h1 rfl | exact absurd hx (by decide)
theorem grown_sign (k n : Nat) : ∀ f ∈ grown k n, f = 116 ∨ f = 112 ∨ f = 98 ∨ f = 105 ∨ f = 110 ∨ f = 109 ∨ f = 108 := by
  intro f hf
  unfold grown at hf
  split at hf
  · rcases List.mem_append.1 hf with hf | hf
    · simp at hf; rcases hf with rfl | rfl | rfl <;> simp
    · rw [(List.mem_replicate.1 hf).2]; simp
  · unfold cmForm at hf
    split at hf <;> simp at hf <;> (try (rcases hf with rfl | rfl | rfl | rfl | rfl <;> simp)) <;> (try (rcases hf with rfl | rfl | rfl | rfl <;> simp)) <;> (try (rcases hf with rfl | rfl | rfl <;> simp)) <;> (try (rcases hf with rfl | rfl <;> simp)) <;> (try (subst hf; simp))
theorem grown_le (k n : Nat) : (grown k n).length ≤ 19 := by
  unfold grown
  split
  · simp; omega
  · have := form_le k; omega

set_option maxRecDepth 40000 in
set_option maxHeartbeats 32000000 in
theorem cmParseR_calls (s : ByteArray) (w : World) :
    Calls Tryz.prog 6 #[.string s] w fun e w' => ∃ bv pv gb gp, e = .returned (.tuple #[.agg #[.int .i64 (refV s.data.toList).1.k, .int .i64 (refV s.data.toList).1.t, .int .i64 (refV s.data.toList).1.p, .int .i64 (refV s.data.toList).1.i, .int .u64 (refV s.data.toList).1.n, .int .u64 (refV s.data.toList).1.m, bv, pv], .int .i64 (refV s.data.toList).2]) ∧
      SlO w' 68 3 opB gb bv (refV s.data.toList).1.body ∧ SlO w' 3 1 intE gp pv (refV s.data.toList).1.preds ∧ (∀ q, gb = some q → w.heap.size ≤ q) ∧ (∀ q, gp = some q → w.heap.size ≤ q) ∧ Ext NoB w w' := by
  generalize hRd : refV s.data.toList = R
  have hRd := Lib.hid hRd
  have hsz : s.data.toList.length = s.size := by rw [Array.length_toList]; rfl
  by_cases h1000 : 1000 < s.size
  · have t0 : decide (1000 < s.size) = true := by simp [h1000]
    have t0' : decide ((1000 : Int) < s.size) = true := by simp; omega
    have hv : Hid (R = (Cm.zero 0, 2)) := by show _ = _; rw [← hRd.out]; unfold refV; rw [if_pos (by omega)]
    go_enter Tryz.func6, Tryz.ntmps6
    go_wp2_with fail
    refine bodyPost_ret (results_row_tmp rfl _ _ w.heap.size _ _ _ _ (.int .i64 2) rfl rfl (alloc_at w _) Tryz.underlying26 rfl (by kernel_rfl)) rfl ?_
    refine ⟨.slice none 0 0, .slice none 0 0, none, none, by rw [hv.out]; rfl, by rw [hv.out]; exact SlO.nil _ _ _ _, by rw [hv.out]; exact SlO.nil _ _ _ _, by simp, by simp, (Ext.refl NoB w).alloc _⟩
  · have t0 : decide (1000 < s.size) = false := by simp; omega
    have t0' : decide ((1000 : Int) < s.size) = false := by simp; omega
    have hb0 := alloc_at w (.cells #[.int .i64 0, .int .i64 0, .int .i64 0, .int .i64 0, .int .u64 0, .int .u64 0, .slice none 0 0, .slice none 0 0] 26)
    have hx0 : Ext NoB w (w.alloc (.cells #[.int .i64 0, .int .i64 0, .int .i64 0, .int .i64 0, .int .u64 0, .int .u64 0, .slice none 0 0, .slice none 0 0] 26)) := (Ext.refl NoB w).alloc _
    go_enter Tryz.func6, Tryz.ntmps6
    go_wp2_with fail
    obtain ⟨bt, hbt⟩ : ∃ bt, w.heap.size = bt := ⟨_, rfl⟩
    rw [hbt] at hb0 ⊢
    have hbtl := lt_of_block hb0
    generalize w.alloc (.cells #[.int .i64 0, .int .i64 0, .int .i64 0, .int .i64 0, .int .u64 0, .int .u64 0, .slice none 0 0, .slice none 0 0] 26) = w0 at *
    refine (wordsR_calls s 32 (by omega) w0).mono ?_
    rintro e w1 ⟨v, g, B, rfl, hBm, hO1, hx1, hg1⟩
    obtain ⟨AB, cB, bs, oB, rfl, hB1, hgB⟩ := hO1.read
    have hne : B.length ≠ 0 := by
      intro e
      have : (B.map (fun x : ByteArray => x.data.toList)).length = 0 := by rw [List.length_map]; exact e
      rw [hBm] at this
      exact spl_ne 32 _ (List.eq_nil_of_length_eq_zero this)
    obtain rfl := hB1.addr (by omega)
    obtain ⟨B0, Bt, hB0⟩ : ∃ B0 Bt, B = B0 :: Bt := by cases B with | nil => simp at hne | cons x y => exact ⟨x, y, rfl⟩
    have hBsz : ∀ x ∈ B, x.size ≤ 1000000 := by
      intro x hx
      have hm : x.data.toList ∈ spl 32 s.data.toList := by rw [← hBm]; exact List.mem_map.2 ⟨x, hx, rfl⟩
      have := (spl_mem 32 _ _ hm).1
      simp only [Array.length_toList] at this
      have e1 : x.size = x.data.size := rfl
      have e2 : s.size = s.data.size := rfl
      omega
    have hBtl : (Bt.map (fun x : ByteArray => x.data.toList)).length = Bt.length := List.length_map _
    have hv : Hid (R = match cmNames.findIdx? (fun x => decide (x = B0.data.toList)) with
        | none => (Cm.zero 0, (3 : Int))
        | some j => if Bt.length = (grown (j + 1) Bt.length).length then match takesV (Cm.zero ((j : Int) + 1)) (grown (j + 1) Bt.length) (Bt.map (fun x : ByteArray => x.data.toList)) with | none => (Cm.zero 0, (3 : Int)) | some c => (c, (0 : Int)) else (Cm.zero 0, (3 : Int))) := by
      show _ = _
      rw [← hRd.out]
      unfold refV
      rw [if_neg (by omega), ← hBm, hB0]
      simp only [List.map_cons, List.head?_cons, Option.getD_some, List.tail_cons, List.length_map]
      rfl
    have hBsz := Lib.hid hBsz
    have hb1 := hx1.keep hb0 nb
    have hx01 := hx0.trans hx1 (fun _ _ e => e)
    have hBl : B.length = Bt.length + 1 := by rw [hB0]; rfl
    have hB0' := Lib.hid hB0
    have hmx := hB1.max
    have hle := hB1.le
    unfold maxLen at hmx
    have hbsl : bs < w1.heap.size := World.block_lt_of_cell? w1 _ (hB1.cell strE_len 0 _ (List.getElem?_eq_getElem (by omega)) 0 _ rfl)
    have hTl : Bt.length ≤ 1000 := by
      have h1 := spl_len 32 s.data.toList
      rw [← hBm, List.length_map] at h1
      omega
    clear hBm hb0 hne hB0 hO1 hgB hRd
    go_wp2_with fail
    refine (rows_calls w1).mono ?_
    rintro e w2 ⟨bn, bf, rfl, hN, hF, hx2⟩
    have hb2 := hx2.keep hb1 nb
    have hB2 := hB1.keep hx2 nb1
    have hx02 := hx01.trans hx2 (fun _ _ e => e)
    have hw2 := hx2.size
    have hbt2 := lt_of_block hb2
    clear hB1 hb1 hx01 hx0 hx1
    go_wp2_with fail
    go_loopw [7] (fun iv wr => ∃ i : Nat, i ≤ 14 ∧ iv = .int .i64 (i : Int) ∧ Hid (∀ j (h : j < cmNames.length), j < i → cmNames[j] ≠ B0.data.toList) ∧ Ext NoB w2 wr) (fun iv _ => 14 - (intOf iv).toNat)
    case atStart => exact ⟨0, by omega, rfl, fun j _ h => absurd h (Nat.not_lt_zero _), Ext.refl _ _⟩
    case round =>
      obtain ⟨i, hi, rfl, hno, hext⟩ := hrel
      have hbr := hext.keep hb2 nb
      have hBr := hB2.keep hext nb1
      have hxw := hx02.trans hext (fun _ _ e => e)
      by_cases hlt : i < 14
      · have t1 : decide (i < 14) = true := by simp [hlt]
        have t1' : decide ((i : Int) < 14) = true := by simp; omega
        have hi0 : (0 : Int) ≤ (i : Int) := by omega
        have hi14 : (i : Int) < 14 := by omega
        have hiN : i < cmNames.length := hlt
        have cn : wr.cell? ⟨bn, i, none⟩ = some (.string (mk cmNames[i])) := by
          have := str_cells (hN.keep hext nb1) i (mk cmNames[i]) (by rw [List.getElem?_map, List.getElem?_eq_getElem hiN]; rfl)
          rwa [Nat.zero_add] at this
        have cf : wr.cell? ⟨bf, i, none⟩ = some (.string (mk (cmForm (i + 1)))) := by
          have := str_cells (hF.keep hext nb1) i (mk (cmForm (i + 1))) (by rw [List.getElem?_map, forms_get i hlt]; rfl)
          rwa [Nat.zero_add] at this
        have c0 : wr.cell? ⟨bs, oB, none⟩ = some (.string B0) := by
          have := str_cells hBr 0 B0 (by rw [hB0'.out]; rfl)
          rwa [Nat.add_zero] at this
        by_cases hm : cmNames[i] = B0.data.toList
        · have hm' : mk cmNames[i] = B0 := by rw [hm]; exact mk_data B0
          rw [hm'] at cn
          have u1 : (B0.toList != B0.toList) = false := by simp
          have hfi : cmNames.findIdx? (fun x => decide (x = B0.data.toList)) = some i := by
            rw [List.findIdx?_eq_some_iff_getElem]
            exact ⟨hiN, decide_eq_true hm, fun j hj => by simpa using hno.out j (by omega) hj⟩
          have hv2 : Hid (R = if Bt.length = (grown (i + 1) Bt.length).length then match takesV (Cm.zero ((i : Int) + 1)) (grown (i + 1) Bt.length) (Bt.map (fun x : ByteArray => x.data.toList)) with | none => (Cm.zero 0, (3 : Int)) | some c => (c, (0 : Int)) else (Cm.zero 0, (3 : Int))) := by show _ = _; rw [hv.out, hfi]
          have hwrap : IntKind.i64.wrap ((i : Int) + 1) = (i : Int) + 1 := by rw [IntKind.wrap_i64]; omega
          clear hm hm' hfi hv hno
          go_wp2_with fail
          go_quiet (fail)
          have hxz : Ext NoB wr (wr.drewN nq) := (Ext.refl NoB wr).drewN nq
          generalize wr.drewN nq = wz at *
          have cfz := Ext.cell hxz cf nb
          have hbz := hxz.keep hbr nb
          have hBz := hBr.keep hxz nb1
          have hxwz := hxw.trans hxz (fun _ _ e => e)
          have hszz : w2.heap.size ≤ wz.heap.size := Nat.le_trans hext.size hxz.size
          have hcr := alloc_at wz (.cells #[.int .i64 ((i : Int) + 1), .int .i64 0, .int .i64 0, .int .i64 0, .int .u64 0, .int .u64 0, .slice none 0 0, .slice none 0 0] 26)
          have hxc : Ext NoB wz (wz.alloc (.cells #[.int .i64 ((i : Int) + 1), .int .i64 0, .int .i64 0, .int .i64 0, .int .u64 0, .int .u64 0, .slice none 0 0, .slice none 0 0] 26)) := (Ext.refl NoB wz).alloc _
          have hcsz : (wz.alloc (.cells #[.int .i64 ((i : Int) + 1), .int .i64 0, .int .i64 0, .int .i64 0, .int .u64 0, .int .u64 0, .slice none 0 0, .slice none 0 0] 26)).heap.size = wz.heap.size + 1 := by simp
          have cfc := Ext.cell hxc cfz nb
          clear cn cf c0 hbr hBr hxw hext
          by_cases hi1 : i = 0
          · subst hi1
            rw [show ((0 : Nat) : Int) = (0 : Int) from rfl]
            have hxc : Ext NoB wz (wz.alloc (.cells #[.int .i64 1, .int .i64 0, .int .i64 0, .int .i64 0, .int .u64 0, .int .u64 0, .slice none 0 0, .slice none 0 0] 26)) := hxc
            have hcr : (wz.alloc (.cells #[.int .i64 1, .int .i64 0, .int .i64 0, .int .i64 0, .int .u64 0, .int .u64 0, .slice none 0 0, .slice none 0 0] 26)).heap[wz.heap.size]? = some (.cells #[.int .i64 1, .int .i64 0, .int .i64 0, .int .i64 0, .int .u64 0, .int .u64 0, .slice none 0 0, .slice none 0 0] 26 (0, 0)) := hcr
            have hcsz : (wz.alloc (.cells #[.int .i64 1, .int .i64 0, .int .i64 0, .int .i64 0, .int .u64 0, .int .u64 0, .slice none 0 0, .slice none 0 0] 26)).heap.size = wz.heap.size + 1 := hcsz
            have cfc : (wz.alloc (.cells #[.int .i64 1, .int .i64 0, .int .i64 0, .int .i64 0, .int .u64 0, .int .u64 0, .slice none 0 0, .slice none 0 0] 26)).cell? ⟨bf, 0, none⟩ = some (.string ⟨#[116, 112, 98, 108]⟩) := cfc
            have x51 : ((((⟨#[116, 112, 98, 108]⟩ : ByteArray)[3]'(by decide)).toNat : Nat) : Int) = 108 := rfl
            go_wp2_with fail
            generalize wz.alloc (.cells #[.int .i64 1, .int .i64 0, .int .i64 0, .int .i64 0, .int .u64 0, .int .u64 0, .slice none 0 0, .slice none 0 0] 26) = wc at *
            go_loopw [9] (fun fv wr => ∃ j : Nat, j ≤ 16 ∧ j ≤ Bt.length - 3 ∧ fv = .string (mk ([116, 112, 98] ++ List.replicate j 108)) ∧ Ext NoB wc wr) (fun fv _ => 30 - strLen fv)
            case atStart => exact ⟨0, by omega, by omega, rfl, Ext.refl _ _⟩
            case round =>
              obtain ⟨j, hj, hjT, rfl, hext2⟩ := hrel
              have hS : (mk ([116, 112, 98] ++ List.replicate j 108)).size = j + 3 := by rw [mk_size]; simp
              have hcat : mk ([116, 112, 98] ++ List.replicate j 108) ++ (⟨#[108]⟩ : ByteArray) = mk ([116, 112, 98] ++ List.replicate (j + 1) 108) := by
                rw [List.replicate_succ', ← List.append_assoc]; exact mk_cat _ [108]
              have hsl : Hid (strLen (.string (mk ([116, 112, 98] ++ List.replicate (j + 1) 108))) = j + 4 ∧ strLen (.string (mk ([116, 112, 98] ++ List.replicate j 108))) = j + 3) := ⟨by show (mk _).size = _; rw [mk_size]; simp, hS⟩
              by_cases hg : j + 3 < Bt.length ∧ j + 3 < 19
              · have u1 : decide ((j : Int) + 3 < (Bt.length : Int)) = true := by simp; omega
                have u2 : decide (j + 3 < Bt.length) = true := by simp; omega
                have u3 : decide ((j : Int) + 3 < 19) = true := by simp; omega
                have u4 : decide (j + 3 < 19) = true := by simp; omega
                have z1 : ¬ 9223372036854775807 < j + 3 + 1 := by omega
                generalize hS2 : mk ([116, 112, 98] ++ List.replicate (j + 1) 108) = S2 at *
                have hS2 := Lib.hid hS2
                generalize mk ([116, 112, 98] ++ List.replicate j 108) = S1 at *
                go_wp2_with fail
                go_roundw
                case rel => exact ⟨j + 1, by omega, by omega, by rw [hS2.out], hext2⟩
                case measure => rw [hsl.out.1, hsl.out.2]; omega
              · rename World => wv
                have hFg : [116, 112, 98] ++ List.replicate j 108 = grown (0 + 1) Bt.length := by
                  unfold grown
                  rw [if_pos rfl, show min (Bt.length - 3) 16 = j by omega]
                have hj3 : ([116, 112, 98] ++ List.replicate j 108 : List UInt8).length = j + 3 := by simp
                clear hS hcat hsl
                generalize hFL : ([116, 112, 98] ++ List.replicate j 108 : List UInt8) = FL at *
                have hSs : (mk FL).size = FL.length := mk_size _
                have hbW := hext2.keep (hxc.keep hbz nb) nb
                have hcW := hext2.keep hcr nb
                have hBW := (hBz.keep hxc nb1).keep hext2 nb1
                have hxW := (hxwz.trans hxc (fun _ _ e => e)).trans hext2 (fun _ _ e => e)
                have hszW := hext2.size
                clear hext2 hFL
                rw [← hj3] at hg
                clear hj3
                by_cases hg1 : FL.length < Bt.length
                · have u1 : decide ((FL.length : Int) < (Bt.length : Int)) = true := by simp; omega
                  have u2 : decide (FL.length < Bt.length) = true := by simp; omega
                  have u3 : decide ((FL.length : Int) < 19) = false := by simp; omega
                  have u4 : decide (FL.length < 19) = false := by simp; omega
                  have hFs := Lib.hid (fun f (hf : f ∈ FL) => grown_sign (0 + 1) Bt.length f (hFg ▸ hf))
                  have hF19 : FL.length ≤ 19 := by rw [hFg]; exact grown_le _ _
                  have hv3 : Hid (R = if Bt.length = FL.length then match takesV (Cm.zero 1) FL (Bt.map (fun x : ByteArray => x.data.toList)) with | none => (Cm.zero 0, (3 : Int)) | some c => (c, (0 : Int)) else (Cm.zero 0, (3 : Int))) := by show _ = _; (rw [hv2.out, ← hFg]) <;> rfl
                  have hFgH := Lib.hid hFg
                  clear hFg
                  have hSe : ∀ (j : Nat) (h : j < (mk FL).size), (mk FL)[j]'h ∈ FL := fun j h => by
                    have : (mk FL)[j]'h = FL[j]'(by rw [mk_size] at h; exact h) := rfl
                    rw [this]; exact List.getElem_mem _
                  have hSg : ∀ (j : Nat) (h : j < (mk FL).size) (h2 : j < FL.length), FL.drop j = (mk FL)[j]'h :: FL.drop (j + 1) := fun j h h2 => List.drop_eq_getElem_cons h2
                  replace hSe := Lib.hid hSe
                  replace hSg := Lib.hid hSg
                  generalize mk FL = S at *
                  by_cases hle : Bt.length = FL.length
                  · have u50 : ((Bt.length : Int) != (FL.length : Int)) = false := by rw [bne_eq_false_iff_eq]; omega
                    have hv4 : Hid (R = match takesV (Cm.zero 1) FL (Bt.map (fun x : ByteArray => x.data.toList)) with | none => (Cm.zero 0, (3 : Int)) | some c => (c, (0 : Int))) := by show _ = _; rw [hv3.out, if_pos (by omega)]
                    generalize hTK : takesV (Cm.zero 1) FL (Bt.map (fun x : ByteArray => x.data.toList)) = TK at hv4
                    replace hTK := Lib.hid hTK
                    have hleH := Lib.hid hle
                    clear hle hv3 hv2
                    go_wp2_with fail
                    skip
                    have hwz := hxwz.size
                    have hszW2 : wz.heap.size + 1 ≤ wv.heap.size := by omega
                    clear hszW
                    generalize wz.heap.size = bC at *
                    obtain ⟨lo, hlo⟩ : ∃ lo, wv.heap.size = lo := ⟨_, rfl⟩
                    have hblo : bC < lo := by have := lt_of_block hcW; omega
                    have hA0 : CmAt wv bC lo (Cm.zero 1) := ⟨_, _, none, none, hcW, SlO.nil _ _ _ _, SlO.nil _ _ _ _, by simp, by simp, by simp, by simp, hblo, by simp⟩
                    have hbtC : bt ≠ bC := by omega
                    have hbtlo : bt < lo := by omega
                    have hbsC : bs ≠ bC := by omega
                    have hbslo : bs < lo := by omega
                    have hwbt : w.heap.size ≤ bC := by omega
                    have hwlo : w.heap.size ≤ lo := by omega
                    have hxWH := Lib.hid hxW
                    clear hxW hxwz hxc hbz hBz hxz
                    go_loopw [11] (fun kv wr => ∃ (j : Nat) (cc : Cm), j ≤ FL.length ∧ kv = .int .i64 (j : Int) ∧ CmAt wr bC lo cc ∧ cc.preds.length ≤ j ∧ Hid (takesV cc (FL.drop j) ((Bt.drop j).map (fun x : ByteArray => x.data.toList)) = TK) ∧ Ext (fun i => i = bC ∨ lo ≤ i) wv wr) (fun kv _ => FL.length - (intOf kv).toNat)
                    case atStart => exact ⟨0, Cm.zero 1, Nat.zero_le _, rfl, hA0, Nat.zero_le _, hTK.out, Ext.refl _ _⟩
                    case round =>
                      obtain ⟨j, cc, hj, rfl, hA, hcf, hinv, hexj⟩ := hrel
                      have hBj := hBW.keep hexj (fun _ e => by omega)
                      have hbj := hexj.keep hbW (by omega)
                      have hwrlo := hexj.size
                      by_cases hjl : j < FL.length
                      · have u60 : decide (j < FL.length) = true := by first | (simp; done) | (simp; omega)
                        have u61 : decide ((j : Int) < (FL.length : Int)) = true := by first | (simp; done) | (simp; omega)
                        have hjF : j < FL.length := by omega
                        have hjB : j < Bt.length := by have := hleH.out; omega
                        have hjS : j < S.size := by rw [hSs]; exact hjl
                        have hcell : wr.cell? ⟨bs, oB + (j + 1), none⟩ = some (.string Bt[j]) := by
                          have := str_cells hBj (j + 1) Bt[j] (by rw [hB0'.out, List.getElem?_cons_succ]; exact List.getElem?_eq_getElem hjB)
                          exact this
                        have hszx := hBsz.out Bt[j] (by rw [hB0'.out]; simp)
                        have hdr : Hid ((Bt.drop j).map (fun x : ByteArray => x.data.toList) = Bt[j].data.toList :: (Bt.drop (j + 1)).map (fun x : ByteArray => x.data.toList)) := by show _ = _; rw [List.drop_eq_getElem_cons hjB, List.map_cons]
                        generalize Bt[j] = bk at *
                        have hfs := hFs.out _ (hSe.out j hjS)
                        have hstep : Hid (TK = (takeV cc (S[j]'hjS) bk.data.toList).bind (fun c' => takesV c' (FL.drop (j + 1)) ((Bt.drop (j + 1)).map (fun x : ByteArray => x.data.toList)))) := by show _ = _; rw [← hinv.out, hSg.out j hjS hjF, hdr.out, takesV]
                        have htc := take_calls cc bC lo (S[j]'hjS) hfs bk hszx wr.drew (hA.keep (Ext.refl NoB wr).drew) (Nat.le_trans (by rw [← hlo]; exact hwrlo) (Nat.le_refl _)) (by omega)
                        have hjI : (0 : Int) ≤ (j : Int) := by omega
                        have hjI1 : (0 : Int) ≤ (j : Int) + 1 := by omega
                        have hwj : IntKind.i64.wrap ((j : Int) + 1) = (j : Int) + 1 := by rw [IntKind.wrap_i64]; omega
                        have hjB2 : j + 1 < Bt.length + 1 := by omega
                        have hjB1 : (j : Int) + 1 < (Bt.length : Int) + 1 := by omega
                        have htk : Hid (∀ c', takeV cc (S[j]'hjS) bk.data.toList = some c' → c'.preds.length ≤ j + 1) := fun c' h => by have := (takeV_keeps h).2; omega
                        generalize hgf : takeV cc (S[j]'hjS) bk.data.toList = TV at *
                        clear hgf hfs hdr hinv
                        have hcellH := Lib.hid hcell
                        cases TV with
                        | none =>
                          have hvR : Hid (R = (Cm.zero 0, 3)) := by show _ = _; rw [hv4.out, hstep.out]; rfl
                          simp only [Option.isSome_none] at htc
                          replace htc := Lib.hid htc
                          go_wp2_with fail
                          go_region_held3 (fun w' => w'.cell? ⟨bs, oB + (j + 1), none⟩ = some (.string bk)) (first
                            | exact hcell
                            | exact hxt.cell hcellH.out (fun e => by simp at e; omega)) (first
                            | (go_at_call 18; (with_reducible refine htc.out.mono ?_); rintro e wt ⟨rfl, hokt, hxt⟩))
                          have hbtt := hxt.keep hbj (by omega)
                          go_wp2_with (refine wpList_storeC bt _ _ _ _ _ _ _ _ _ rfl _ _ rfl rfl rfl hbtt rfl (by simp [Value.oneCell']) (fun w6 hb6 hx6 => ?_))
                          try simp only [Exit.inBlock, Exit.then]
                          refine bodyPost_ret (results_row_tmp rfl _ _ bt _ _ _ _ (.int .i64 3) rfl rfl hb6 Tryz.underlying26 rfl (by kernel_rfl)) rfl ?_
                          exact ⟨.slice none 0 0, .slice none 0 0, none, none, by rw [hvR.out]; rfl, by rw [hvR.out]; exact SlO.nil _ _ _ _, by rw [hvR.out]; exact SlO.nil _ _ _ _, by simp, by simp, ((hxWH.out.trans hexj.drew (fun i hi e => by omega)).trans hxt (fun i hi e => by omega)).trans hx6 (fun i hi e => by omega)⟩
                        | some c2 =>
                          have hc2 := htk.out c2 rfl
                          have hinv2 : Hid (takesV c2 (FL.drop (j + 1)) ((Bt.drop (j + 1)).map (fun x : ByteArray => x.data.toList)) = TK) := by show _ = _; rw [hstep.out]; rfl
                          simp only [Option.isSome_some] at htc
                          replace htc := Lib.hid htc
                          go_wp2_with fail
                          go_region_held3 (fun w' => w'.cell? ⟨bs, oB + (j + 1), none⟩ = some (.string bk)) (first
                            | exact hcell
                            | exact hxt.cell hcellH.out (fun e => by simp at e; omega)) (first
                            | (go_at_call 18; (with_reducible refine htc.out.mono ?_); rintro e wt ⟨rfl, hokt, hxt⟩))
                          go_wp2_with fail
                          go_roundw
                          case rel => exact ⟨j + 1, c2, by omega, by go_num, hokt c2 rfl, hc2, hinv2.out, (hexj.drew).trans hxt (fun i hi e => e)⟩
                          case measure => simp [intOf]; omega
                      · have u60 : decide (j < FL.length) = false := by first | (simp; done) | (simp; omega)
                        have u61 : decide ((j : Int) < (FL.length : Int)) = false := by first | (simp; done) | (simp; omega)
                        have hjF : j = FL.length := by omega
                        have hTKc : Hid (TK = some cc) := by
                          show _ = _
                          rw [← hinv.out, hjF, List.drop_length]
                          cases (Bt.drop FL.length).map (fun x : ByteArray => x.data.toList) <;> rfl
                        have hvR : Hid (R = (cc, 0)) := by show _ = _; rw [hv4.out, hTKc.out]
                        obtain ⟨bv, pv, gb, gp, k1, k2, k3, k4, k5, k6, k7, k8, k9⟩ := hA
                        obtain ⟨Ap, cp, bp, op, rfl, hrp, hgp⟩ := k3.read
                        obtain ⟨Ab, cb, bb, ob, rfl, hrb, hgb⟩ := k2.read
                        go_wp2_with (first
                          | (refine wpList_load_row rfl 26 _ rfl bC rfl _ _ _ _ k1 Tryz.underlying26 rfl (by kernel_rfl) ?_)
                          | (refine wpList_storeC bt _ _ _ _ _ _ _ _ _ rfl _ _ rfl rfl rfl hbj rfl (by simp [Value.oneCell']) (fun w6 hb6 hx6 => ?_)))
                        try simp only [Exit.inBlock, Exit.then]
                        refine bodyPost_ret (results_row_tmp rfl _ _ bt _ _ _ _ (.int .i64 0) rfl rfl hb6 Tryz.underlying26 rfl (by kernel_rfl)) rfl ?_
                        have xt := (hxWH.out.trans hexj (fun i hi e => by omega)).trans hx6 (fun i hi e => by omega)
                        refine ⟨_, _, gb, gp, by rw [hvR.out], ?_, ?_, fun q hq => by have := k6 q hq; omega, fun q hq => by have := k7 q hq; omega, xt⟩
                        · rw [hvR.out]
                          exact k2.keep hx6 (fun q hq e => by have := k6 q hq; omega)
                        · rw [hvR.out]
                          exact k3.keep hx6 (fun q hq e => by have := k7 q hq; omega)
                  · have u50 : ((Bt.length : Int) != (FL.length : Int)) = true := by rw [bne_iff_ne]; omega
                    have hvR : Hid (R = (Cm.zero 0, 3)) := by show _ = _; rw [hv3.out, if_neg (by omega)]
                    clear hle hv3 hv2
                    go_wp2_with (refine wpList_storeC bt _ _ _ _ _ _ _ _ _ rfl _ _ rfl rfl rfl hbW rfl (by simp [Value.oneCell']) (fun w6 hb6 hx6 => ?_))
                    try simp only [Exit.inBlock, Exit.then]
                    refine bodyPost_ret (results_row_tmp rfl _ _ bt _ _ _ _ (.int .i64 3) rfl rfl hb6 Tryz.underlying26 rfl (by kernel_rfl)) rfl ?_
                    exact ⟨.slice none 0 0, .slice none 0 0, none, none, by rw [hvR.out]; rfl, by rw [hvR.out]; exact SlO.nil _ _ _ _, by rw [hvR.out]; exact SlO.nil _ _ _ _, by simp, by simp, hxW.trans hx6 (fun i hi e => by omega)⟩
                · have u1 : decide ((FL.length : Int) < (Bt.length : Int)) = false := by simp; omega
                  have u2 : decide (FL.length < Bt.length) = false := by simp; omega
                  have hFs := Lib.hid (fun f (hf : f ∈ FL) => grown_sign (0 + 1) Bt.length f (hFg ▸ hf))
                  have hF19 : FL.length ≤ 19 := by rw [hFg]; exact grown_le _ _
                  have hv3 : Hid (R = if Bt.length = FL.length then match takesV (Cm.zero 1) FL (Bt.map (fun x : ByteArray => x.data.toList)) with | none => (Cm.zero 0, (3 : Int)) | some c => (c, (0 : Int)) else (Cm.zero 0, (3 : Int))) := by show _ = _; (rw [hv2.out, ← hFg]) <;> rfl
                  have hFgH := Lib.hid hFg
                  clear hFg
                  have hSe : ∀ (j : Nat) (h : j < (mk FL).size), (mk FL)[j]'h ∈ FL := fun j h => by
                    have : (mk FL)[j]'h = FL[j]'(by rw [mk_size] at h; exact h) := rfl
                    rw [this]; exact List.getElem_mem _
                  have hSg : ∀ (j : Nat) (h : j < (mk FL).size) (h2 : j < FL.length), FL.drop j = (mk FL)[j]'h :: FL.drop (j + 1) := fun j h h2 => List.drop_eq_getElem_cons h2
                  replace hSe := Lib.hid hSe
                  replace hSg := Lib.hid hSg
                  generalize mk FL = S at *
                  by_cases hle : Bt.length = FL.length
                  · have u50 : ((Bt.length : Int) != (FL.length : Int)) = false := by rw [bne_eq_false_iff_eq]; omega
                    have hv4 : Hid (R = match takesV (Cm.zero 1) FL (Bt.map (fun x : ByteArray => x.data.toList)) with | none => (Cm.zero 0, (3 : Int)) | some c => (c, (0 : Int))) := by show _ = _; rw [hv3.out, if_pos (by omega)]
                    generalize hTK : takesV (Cm.zero 1) FL (Bt.map (fun x : ByteArray => x.data.toList)) = TK at hv4
                    replace hTK := Lib.hid hTK
                    have hleH := Lib.hid hle
                    clear hle hv3 hv2
                    go_wp2_with fail
                    skip
                    have hwz := hxwz.size
                    have hszW2 : wz.heap.size + 1 ≤ wv.heap.size := by omega
                    clear hszW
                    generalize wz.heap.size = bC at *
                    obtain ⟨lo, hlo⟩ : ∃ lo, wv.heap.size = lo := ⟨_, rfl⟩
                    have hblo : bC < lo := by have := lt_of_block hcW; omega
                    have hA0 : CmAt wv bC lo (Cm.zero 1) := ⟨_, _, none, none, hcW, SlO.nil _ _ _ _, SlO.nil _ _ _ _, by simp, by simp, by simp, by simp, hblo, by simp⟩
                    have hbtC : bt ≠ bC := by omega
                    have hbtlo : bt < lo := by omega
                    have hbsC : bs ≠ bC := by omega
                    have hbslo : bs < lo := by omega
                    have hwbt : w.heap.size ≤ bC := by omega
                    have hwlo : w.heap.size ≤ lo := by omega
                    have hxWH := Lib.hid hxW
                    clear hxW hxwz hxc hbz hBz hxz
                    go_loopw [11] (fun kv wr => ∃ (j : Nat) (cc : Cm), j ≤ FL.length ∧ kv = .int .i64 (j : Int) ∧ CmAt wr bC lo cc ∧ cc.preds.length ≤ j ∧ Hid (takesV cc (FL.drop j) ((Bt.drop j).map (fun x : ByteArray => x.data.toList)) = TK) ∧ Ext (fun i => i = bC ∨ lo ≤ i) wv wr) (fun kv _ => FL.length - (intOf kv).toNat)
                    case atStart => exact ⟨0, Cm.zero 1, Nat.zero_le _, rfl, hA0, Nat.zero_le _, hTK.out, Ext.refl _ _⟩
                    case round =>
                      obtain ⟨j, cc, hj, rfl, hA, hcf, hinv, hexj⟩ := hrel
                      have hBj := hBW.keep hexj (fun _ e => by omega)
                      have hbj := hexj.keep hbW (by omega)
                      have hwrlo := hexj.size
                      by_cases hjl : j < FL.length
                      · have u60 : decide (j < FL.length) = true := by first | (simp; done) | (simp; omega)
                        have u61 : decide ((j : Int) < (FL.length : Int)) = true := by first | (simp; done) | (simp; omega)
                        have hjF : j < FL.length := by omega
                        have hjB : j < Bt.length := by have := hleH.out; omega
                        have hjS : j < S.size := by rw [hSs]; exact hjl
                        have hcell : wr.cell? ⟨bs, oB + (j + 1), none⟩ = some (.string Bt[j]) := by
                          have := str_cells hBj (j + 1) Bt[j] (by rw [hB0'.out, List.getElem?_cons_succ]; exact List.getElem?_eq_getElem hjB)
                          exact this
                        have hszx := hBsz.out Bt[j] (by rw [hB0'.out]; simp)
                        have hdr : Hid ((Bt.drop j).map (fun x : ByteArray => x.data.toList) = Bt[j].data.toList :: (Bt.drop (j + 1)).map (fun x : ByteArray => x.data.toList)) := by show _ = _; rw [List.drop_eq_getElem_cons hjB, List.map_cons]
                        generalize Bt[j] = bk at *
                        have hfs := hFs.out _ (hSe.out j hjS)
                        have hstep : Hid (TK = (takeV cc (S[j]'hjS) bk.data.toList).bind (fun c' => takesV c' (FL.drop (j + 1)) ((Bt.drop (j + 1)).map (fun x : ByteArray => x.data.toList)))) := by show _ = _; rw [← hinv.out, hSg.out j hjS hjF, hdr.out, takesV]
                        have htc := take_calls cc bC lo (S[j]'hjS) hfs bk hszx wr.drew (hA.keep (Ext.refl NoB wr).drew) (Nat.le_trans (by rw [← hlo]; exact hwrlo) (Nat.le_refl _)) (by omega)
                        have hjI : (0 : Int) ≤ (j : Int) := by omega
                        have hjI1 : (0 : Int) ≤ (j : Int) + 1 := by omega
                        have hwj : IntKind.i64.wrap ((j : Int) + 1) = (j : Int) + 1 := by rw [IntKind.wrap_i64]; omega
                        have hjB2 : j + 1 < Bt.length + 1 := by omega
                        have hjB1 : (j : Int) + 1 < (Bt.length : Int) + 1 := by omega
                        have htk : Hid (∀ c', takeV cc (S[j]'hjS) bk.data.toList = some c' → c'.preds.length ≤ j + 1) := fun c' h => by have := (takeV_keeps h).2; omega
                        generalize hgf : takeV cc (S[j]'hjS) bk.data.toList = TV at *
                        clear hgf hfs hdr hinv
                        have hcellH := Lib.hid hcell
                        cases TV with
                        | none =>
                          have hvR : Hid (R = (Cm.zero 0, 3)) := by show _ = _; rw [hv4.out, hstep.out]; rfl
                          simp only [Option.isSome_none] at htc
                          replace htc := Lib.hid htc
                          go_wp2_with fail
                          go_region_held3 (fun w' => w'.cell? ⟨bs, oB + (j + 1), none⟩ = some (.string bk)) (first
                            | exact hcell
                            | exact hxt.cell hcellH.out (fun e => by simp at e; omega)) (first
                            | (go_at_call 18; (with_reducible refine htc.out.mono ?_); rintro e wt ⟨rfl, hokt, hxt⟩))
                          have hbtt := hxt.keep hbj (by omega)
                          go_wp2_with (refine wpList_storeC bt _ _ _ _ _ _ _ _ _ rfl _ _ rfl rfl rfl hbtt rfl (by simp [Value.oneCell']) (fun w6 hb6 hx6 => ?_))
                          try simp only [Exit.inBlock, Exit.then]
                          refine bodyPost_ret (results_row_tmp rfl _ _ bt _ _ _ _ (.int .i64 3) rfl rfl hb6 Tryz.underlying26 rfl (by kernel_rfl)) rfl ?_
                          exact ⟨.slice none 0 0, .slice none 0 0, none, none, by rw [hvR.out]; rfl, by rw [hvR.out]; exact SlO.nil _ _ _ _, by rw [hvR.out]; exact SlO.nil _ _ _ _, by simp, by simp, ((hxWH.out.trans hexj.drew (fun i hi e => by omega)).trans hxt (fun i hi e => by omega)).trans hx6 (fun i hi e => by omega)⟩
                        | some c2 =>
                          have hc2 := htk.out c2 rfl
                          have hinv2 : Hid (takesV c2 (FL.drop (j + 1)) ((Bt.drop (j + 1)).map (fun x : ByteArray => x.data.toList)) = TK) := by show _ = _; rw [hstep.out]; rfl
                          simp only [Option.isSome_some] at htc
                          replace htc := Lib.hid htc
                          go_wp2_with fail
                          go_region_held3 (fun w' => w'.cell? ⟨bs, oB + (j + 1), none⟩ = some (.string bk)) (first
                            | exact hcell
                            | exact hxt.cell hcellH.out (fun e => by simp at e; omega)) (first
                            | (go_at_call 18; (with_reducible refine htc.out.mono ?_); rintro e wt ⟨rfl, hokt, hxt⟩))
                          go_wp2_with fail
                          go_roundw
                          case rel => exact ⟨j + 1, c2, by omega, by go_num, hokt c2 rfl, hc2, hinv2.out, (hexj.drew).trans hxt (fun i hi e => e)⟩
                          case measure => simp [intOf]; omega
                      · have u60 : decide (j < FL.length) = false := by first | (simp; done) | (simp; omega)
                        have u61 : decide ((j : Int) < (FL.length : Int)) = false := by first | (simp; done) | (simp; omega)
                        have hjF : j = FL.length := by omega
                        have hTKc : Hid (TK = some cc) := by
                          show _ = _
                          rw [← hinv.out, hjF, List.drop_length]
                          cases (Bt.drop FL.length).map (fun x : ByteArray => x.data.toList) <;> rfl
                        have hvR : Hid (R = (cc, 0)) := by show _ = _; rw [hv4.out, hTKc.out]
                        obtain ⟨bv, pv, gb, gp, k1, k2, k3, k4, k5, k6, k7, k8, k9⟩ := hA
                        obtain ⟨Ap, cp, bp, op, rfl, hrp, hgp⟩ := k3.read
                        obtain ⟨Ab, cb, bb, ob, rfl, hrb, hgb⟩ := k2.read
                        go_wp2_with (first
                          | (refine wpList_load_row rfl 26 _ rfl bC rfl _ _ _ _ k1 Tryz.underlying26 rfl (by kernel_rfl) ?_)
                          | (refine wpList_storeC bt _ _ _ _ _ _ _ _ _ rfl _ _ rfl rfl rfl hbj rfl (by simp [Value.oneCell']) (fun w6 hb6 hx6 => ?_)))
                        try simp only [Exit.inBlock, Exit.then]
                        refine bodyPost_ret (results_row_tmp rfl _ _ bt _ _ _ _ (.int .i64 0) rfl rfl hb6 Tryz.underlying26 rfl (by kernel_rfl)) rfl ?_
                        have xt := (hxWH.out.trans hexj (fun i hi e => by omega)).trans hx6 (fun i hi e => by omega)
                        refine ⟨_, _, gb, gp, by rw [hvR.out], ?_, ?_, fun q hq => by have := k6 q hq; omega, fun q hq => by have := k7 q hq; omega, xt⟩
                        · rw [hvR.out]
                          exact k2.keep hx6 (fun q hq e => by have := k6 q hq; omega)
                        · rw [hvR.out]
                          exact k3.keep hx6 (fun q hq e => by have := k7 q hq; omega)
                  · have u50 : ((Bt.length : Int) != (FL.length : Int)) = true := by rw [bne_iff_ne]; omega
                    have hvR : Hid (R = (Cm.zero 0, 3)) := by show _ = _; rw [hv3.out, if_neg (by omega)]
                    clear hle hv3 hv2
                    go_wp2_with (refine wpList_storeC bt _ _ _ _ _ _ _ _ _ rfl _ _ rfl rfl rfl hbW rfl (by simp [Value.oneCell']) (fun w6 hb6 hx6 => ?_))
                    try simp only [Exit.inBlock, Exit.then]
                    refine bodyPost_ret (results_row_tmp rfl _ _ bt _ _ _ _ (.int .i64 3) rfl rfl hb6 Tryz.underlying26 rfl (by kernel_rfl)) rfl ?_
                    exact ⟨.slice none 0 0, .slice none 0 0, none, none, by rw [hvR.out]; rfl, by rw [hvR.out]; exact SlO.nil _ _ _ _, by rw [hvR.out]; exact SlO.nil _ _ _ _, by simp, by simp, hxW.trans hx6 (fun i hi e => by omega)⟩
          · have hk1 : i + 1 ≠ 1 := by omega
            have hFg : cmForm (i + 1) = grown (i + 1) Bt.length := by unfold grown; rw [if_neg hk1]
            have hbW := hxc.keep hbz nb
            have hBW := hBz.keep hxc nb1
            have hxW := hxwz.trans hxc (fun _ _ e => e)
            have hcW := hcr
            have hszW : wz.heap.size + 1 ≤ (wz.alloc (.cells #[.int .i64 ((i : Int) + 1), .int .i64 0, .int .i64 0, .int .i64 0, .int .u64 0, .int .u64 0, .slice none 0 0, .slice none 0 0] 26)).heap.size := by simp
            have hfl := form_last (i + 1) hk1
            generalize hFL : cmForm (i + 1) = FL at *
            clear hFL
            by_cases hnil : FL = []
            · have hSs : (mk FL).size = 0 := by rw [hnil]; rfl
              have hFLn : FL.length = 0 := by rw [hnil]; rfl
              clear hfl hnil
              have hFs := Lib.hid (fun f (hf : f ∈ FL) => grown_sign (i + 1) Bt.length f (hFg ▸ hf))
              have hF19 : FL.length ≤ 19 := by rw [hFg]; exact grown_le _ _
              have hv3 : Hid (R = if Bt.length = FL.length then match takesV (Cm.zero ((i : Int) + 1)) FL (Bt.map (fun x : ByteArray => x.data.toList)) with | none => (Cm.zero 0, (3 : Int)) | some c => (c, (0 : Int)) else (Cm.zero 0, (3 : Int))) := by show _ = _; (rw [hv2.out, ← hFg]) <;> rfl
              have hFgH := Lib.hid hFg
              clear hFg
              have hSe : ∀ (j : Nat) (h : j < (mk FL).size), (mk FL)[j]'h ∈ FL := fun j h => by
                have : (mk FL)[j]'h = FL[j]'(by rw [mk_size] at h; exact h) := rfl
                rw [this]; exact List.getElem_mem _
              have hSg : ∀ (j : Nat) (h : j < (mk FL).size) (h2 : j < FL.length), FL.drop j = (mk FL)[j]'h :: FL.drop (j + 1) := fun j h h2 => List.drop_eq_getElem_cons h2
              replace hSe := Lib.hid hSe
              replace hSg := Lib.hid hSg
              generalize mk FL = S at *
              by_cases hle : Bt.length = 0
              · have u50 : ((Bt.length : Int) != 0) = false := by rw [bne_eq_false_iff_eq]; omega
                have hv4 : Hid (R = match takesV (Cm.zero ((i : Int) + 1)) FL (Bt.map (fun x : ByteArray => x.data.toList)) with | none => (Cm.zero 0, (3 : Int)) | some c => (c, (0 : Int))) := by show _ = _; rw [hv3.out, if_pos (by omega)]
                generalize hTK : takesV (Cm.zero ((i : Int) + 1)) FL (Bt.map (fun x : ByteArray => x.data.toList)) = TK at hv4
                replace hTK := Lib.hid hTK
                have hleH := Lib.hid hle
                clear hle hv3 hv2
                go_wp2_with fail
                generalize wz.alloc (.cells #[.int .i64 ((i : Int) + 1), .int .i64 0, .int .i64 0, .int .i64 0, .int .u64 0, .int .u64 0, .slice none 0 0, .slice none 0 0] 26) = wv at *
                have hwz := hxwz.size
                have hszW2 : wz.heap.size + 1 ≤ wv.heap.size := by omega
                clear hszW
                generalize wz.heap.size = bC at *
                obtain ⟨lo, hlo⟩ : ∃ lo, wv.heap.size = lo := ⟨_, rfl⟩
                have hblo : bC < lo := by have := lt_of_block hcW; omega
                have hA0 : CmAt wv bC lo (Cm.zero ((i : Int) + 1)) := ⟨_, _, none, none, hcW, SlO.nil _ _ _ _, SlO.nil _ _ _ _, by simp, by simp, by simp, by simp, hblo, by simp⟩
                have hbtC : bt ≠ bC := by omega
                have hbtlo : bt < lo := by omega
                have hbsC : bs ≠ bC := by omega
                have hbslo : bs < lo := by omega
                have hwbt : w.heap.size ≤ bC := by omega
                have hwlo : w.heap.size ≤ lo := by omega
                have hxWH := Lib.hid hxW
                clear hxW hxwz hxc hbz hBz hxz
                go_loopw [11] (fun kv wr => ∃ (j : Nat) (cc : Cm), j ≤ FL.length ∧ kv = .int .i64 (j : Int) ∧ CmAt wr bC lo cc ∧ cc.preds.length ≤ j ∧ Hid (takesV cc (FL.drop j) ((Bt.drop j).map (fun x : ByteArray => x.data.toList)) = TK) ∧ Ext (fun i => i = bC ∨ lo ≤ i) wv wr) (fun kv _ => FL.length - (intOf kv).toNat)
                case atStart => exact ⟨0, Cm.zero ((i : Int) + 1), Nat.zero_le _, rfl, hA0, Nat.zero_le _, hTK.out, Ext.refl _ _⟩
                case round =>
                  obtain ⟨j, cc, hj, rfl, hA, hcf, hinv, hexj⟩ := hrel
                  have hBj := hBW.keep hexj (fun _ e => by omega)
                  have hbj := hexj.keep hbW (by omega)
                  have hwrlo := hexj.size
                  by_cases hjl : j < 0
                  · exact absurd hjl (Nat.not_lt_zero _)
                  · have u60 : decide (j < 0) = false := by first | (simp; done) | (simp; omega)
                    have hjF : j = FL.length := by omega
                    have hTKc : Hid (TK = some cc) := by
                      show _ = _
                      rw [← hinv.out, hjF, List.drop_length]
                      cases (Bt.drop FL.length).map (fun x : ByteArray => x.data.toList) <;> rfl
                    have hvR : Hid (R = (cc, 0)) := by show _ = _; rw [hv4.out, hTKc.out]
                    obtain ⟨bv, pv, gb, gp, k1, k2, k3, k4, k5, k6, k7, k8, k9⟩ := hA
                    obtain ⟨Ap, cp, bp, op, rfl, hrp, hgp⟩ := k3.read
                    obtain ⟨Ab, cb, bb, ob, rfl, hrb, hgb⟩ := k2.read
                    go_wp2_with (first
                      | (refine wpList_load_row rfl 26 _ rfl bC rfl _ _ _ _ k1 Tryz.underlying26 rfl (by kernel_rfl) ?_)
                      | (refine wpList_storeC bt _ _ _ _ _ _ _ _ _ rfl _ _ rfl rfl rfl hbj rfl (by simp [Value.oneCell']) (fun w6 hb6 hx6 => ?_)))
                    try simp only [Exit.inBlock, Exit.then]
                    refine bodyPost_ret (results_row_tmp rfl _ _ bt _ _ _ _ (.int .i64 0) rfl rfl hb6 Tryz.underlying26 rfl (by kernel_rfl)) rfl ?_
                    have xt := (hxWH.out.trans hexj (fun i hi e => by omega)).trans hx6 (fun i hi e => by omega)
                    refine ⟨_, _, gb, gp, by rw [hvR.out], ?_, ?_, fun q hq => by have := k6 q hq; omega, fun q hq => by have := k7 q hq; omega, xt⟩
                    · rw [hvR.out]
                      exact k2.keep hx6 (fun q hq e => by have := k6 q hq; omega)
                    · rw [hvR.out]
                      exact k3.keep hx6 (fun q hq e => by have := k7 q hq; omega)
              · have u50 : ((Bt.length : Int) != 0) = true := by rw [bne_iff_ne]; omega
                have hvR : Hid (R = (Cm.zero 0, 3)) := by show _ = _; rw [hv3.out, if_neg (by omega)]
                clear hle hv3 hv2
                go_wp2_with (refine wpList_storeC bt _ _ _ _ _ _ _ _ _ rfl _ _ rfl rfl rfl hbW rfl (by simp [Value.oneCell']) (fun w6 hb6 hx6 => ?_))
                try simp only [Exit.inBlock, Exit.then]
                refine bodyPost_ret (results_row_tmp rfl _ _ bt _ _ _ _ (.int .i64 3) rfl rfl hb6 Tryz.underlying26 rfl (by kernel_rfl)) rfl ?_
                exact ⟨.slice none 0 0, .slice none 0 0, none, none, by rw [hvR.out]; rfl, by rw [hvR.out]; exact SlO.nil _ _ _ _, by rw [hvR.out]; exact SlO.nil _ _ _ _, by simp, by simp, hxW.trans hx6 (fun i hi e => by omega)⟩
            · obtain ⟨F0, x, hFx⟩ : ∃ F0 x, FL = F0 ++ [x] := ⟨_, _, (List.dropLast_concat_getLast hnil).symm⟩
              have hx108 := hfl F0 x hFx
              clear hfl hnil
              subst hFx
              have hFLn : (F0 ++ [x]).length = F0.length + 1 := by simp
              have hSs : (mk (F0 ++ [x])).size = F0.length + 1 := by rw [mk_size, hFLn]
              have hlast : ∀ h : F0.length < (mk (F0 ++ [x])).size, (mk (F0 ++ [x]))[F0.length]'h = x := by
                intro h
                have : (mk (F0 ++ [x]))[F0.length]'h = (F0 ++ [x])[F0.length]'(by simp) := rfl
                rw [this]
                simp
              have hl108 : ∀ h : F0.length < (mk (F0 ++ [x])).size, (((mk (F0 ++ [x]))[F0.length]'h).toNat : Int) ≠ 108 := by
                intro h e
                rw [hlast h] at e
                exact hx108 (UInt8.toNat_inj.1 (by show x.toNat = 108; omega))
              clear hlast hx108
              generalize hFL : F0 ++ [x] = FL at *
              clear hFL
              generalize F0.length = n1 at *
              have hn1 : n1 < (mk FL).size := by rw [hSs]; omega
              have hl1 := hl108 hn1
              have hl2 : ((((mk FL)[n1]'hn1).toNat : Int) == 108) = false := by rw [beq_eq_false_iff_ne]; exact hl1
              clear hl108
              have hFs := Lib.hid (fun f (hf : f ∈ FL) => grown_sign (i + 1) Bt.length f (hFg ▸ hf))
              have hF19 : FL.length ≤ 19 := by rw [hFg]; exact grown_le _ _
              have hv3 : Hid (R = if Bt.length = FL.length then match takesV (Cm.zero ((i : Int) + 1)) FL (Bt.map (fun x : ByteArray => x.data.toList)) with | none => (Cm.zero 0, (3 : Int)) | some c => (c, (0 : Int)) else (Cm.zero 0, (3 : Int))) := by show _ = _; (rw [hv2.out, ← hFg]) <;> rfl
              have hFgH := Lib.hid hFg
              clear hFg
              have hSe : ∀ (j : Nat) (h : j < (mk FL).size), (mk FL)[j]'h ∈ FL := fun j h => by
                have : (mk FL)[j]'h = FL[j]'(by rw [mk_size] at h; exact h) := rfl
                rw [this]; exact List.getElem_mem _
              have hSg : ∀ (j : Nat) (h : j < (mk FL).size) (h2 : j < FL.length), FL.drop j = (mk FL)[j]'h :: FL.drop (j + 1) := fun j h h2 => List.drop_eq_getElem_cons h2
              replace hSe := Lib.hid hSe
              replace hSg := Lib.hid hSg
              generalize mk FL = S at *
              by_cases hle : Bt.length = (n1 + 1)
              · have u50 : ((Bt.length : Int) != ((n1 : Int) + 1)) = false := by rw [bne_eq_false_iff_eq]; omega
                have u51 : ((Bt.length : Int) != ((n1 + 1 : Nat) : Int)) = false := by rw [bne_eq_false_iff_eq]; omega
                have hv4 : Hid (R = match takesV (Cm.zero ((i : Int) + 1)) FL (Bt.map (fun x : ByteArray => x.data.toList)) with | none => (Cm.zero 0, (3 : Int)) | some c => (c, (0 : Int))) := by show _ = _; rw [hv3.out, if_pos (by omega)]
                generalize hTK : takesV (Cm.zero ((i : Int) + 1)) FL (Bt.map (fun x : ByteArray => x.data.toList)) = TK at hv4
                replace hTK := Lib.hid hTK
                have hleH := Lib.hid hle
                clear hle hv3 hv2
                go_wp2_with fail
                generalize wz.alloc (.cells #[.int .i64 ((i : Int) + 1), .int .i64 0, .int .i64 0, .int .i64 0, .int .u64 0, .int .u64 0, .slice none 0 0, .slice none 0 0] 26) = wv at *
                have hwz := hxwz.size
                have hszW2 : wz.heap.size + 1 ≤ wv.heap.size := by omega
                clear hszW
                generalize wz.heap.size = bC at *
                obtain ⟨lo, hlo⟩ : ∃ lo, wv.heap.size = lo := ⟨_, rfl⟩
                have hblo : bC < lo := by have := lt_of_block hcW; omega
                have hA0 : CmAt wv bC lo (Cm.zero ((i : Int) + 1)) := ⟨_, _, none, none, hcW, SlO.nil _ _ _ _, SlO.nil _ _ _ _, by simp, by simp, by simp, by simp, hblo, by simp⟩
                have hbtC : bt ≠ bC := by omega
                have hbtlo : bt < lo := by omega
                have hbsC : bs ≠ bC := by omega
                have hbslo : bs < lo := by omega
                have hwbt : w.heap.size ≤ bC := by omega
                have hwlo : w.heap.size ≤ lo := by omega
                have hxWH := Lib.hid hxW
                clear hxW hxwz hxc hbz hBz hxz
                go_loopw [11] (fun kv wr => ∃ (j : Nat) (cc : Cm), j ≤ FL.length ∧ kv = .int .i64 (j : Int) ∧ CmAt wr bC lo cc ∧ cc.preds.length ≤ j ∧ Hid (takesV cc (FL.drop j) ((Bt.drop j).map (fun x : ByteArray => x.data.toList)) = TK) ∧ Ext (fun i => i = bC ∨ lo ≤ i) wv wr) (fun kv _ => FL.length - (intOf kv).toNat)
                case atStart => exact ⟨0, Cm.zero ((i : Int) + 1), Nat.zero_le _, rfl, hA0, Nat.zero_le _, hTK.out, Ext.refl _ _⟩
                case round =>
                  obtain ⟨j, cc, hj, rfl, hA, hcf, hinv, hexj⟩ := hrel
                  have hBj := hBW.keep hexj (fun _ e => by omega)
                  have hbj := hexj.keep hbW (by omega)
                  have hwrlo := hexj.size
                  by_cases hjl : j < (n1 + 1)
                  · have u60 : decide (j < n1 + 1) = true := by first | (simp; done) | (simp; omega)
                    have u61 : decide ((j : Int) < (n1 : Int) + 1) = true := by first | (simp; done) | (simp; omega)
                    have hjF : j < FL.length := by omega
                    have hjB : j < Bt.length := by have := hleH.out; omega
                    have hjS : j < S.size := by rw [hSs]; exact hjl
                    have hcell : wr.cell? ⟨bs, oB + (j + 1), none⟩ = some (.string Bt[j]) := by
                      have := str_cells hBj (j + 1) Bt[j] (by rw [hB0'.out, List.getElem?_cons_succ]; exact List.getElem?_eq_getElem hjB)
                      exact this
                    have hszx := hBsz.out Bt[j] (by rw [hB0'.out]; simp)
                    have hdr : Hid ((Bt.drop j).map (fun x : ByteArray => x.data.toList) = Bt[j].data.toList :: (Bt.drop (j + 1)).map (fun x : ByteArray => x.data.toList)) := by show _ = _; rw [List.drop_eq_getElem_cons hjB, List.map_cons]
                    generalize Bt[j] = bk at *
                    have hfs := hFs.out _ (hSe.out j hjS)
                    have hstep : Hid (TK = (takeV cc (S[j]'hjS) bk.data.toList).bind (fun c' => takesV c' (FL.drop (j + 1)) ((Bt.drop (j + 1)).map (fun x : ByteArray => x.data.toList)))) := by show _ = _; rw [← hinv.out, hSg.out j hjS hjF, hdr.out, takesV]
                    have htc := take_calls cc bC lo (S[j]'hjS) hfs bk hszx wr.drew (hA.keep (Ext.refl NoB wr).drew) (Nat.le_trans (by rw [← hlo]; exact hwrlo) (Nat.le_refl _)) (by omega)
                    have hjI : (0 : Int) ≤ (j : Int) := by omega
                    have hjI1 : (0 : Int) ≤ (j : Int) + 1 := by omega
                    have hwj : IntKind.i64.wrap ((j : Int) + 1) = (j : Int) + 1 := by rw [IntKind.wrap_i64]; omega
                    have hjB2 : j + 1 < Bt.length + 1 := by omega
                    have hjB1 : (j : Int) + 1 < (Bt.length : Int) + 1 := by omega
                    have htk : Hid (∀ c', takeV cc (S[j]'hjS) bk.data.toList = some c' → c'.preds.length ≤ j + 1) := fun c' h => by have := (takeV_keeps h).2; omega
                    generalize hgf : takeV cc (S[j]'hjS) bk.data.toList = TV at *
                    clear hgf hfs hdr hinv
                    have hcellH := Lib.hid hcell
                    cases TV with
                    | none =>
                      have hvR : Hid (R = (Cm.zero 0, 3)) := by show _ = _; rw [hv4.out, hstep.out]; rfl
                      simp only [Option.isSome_none] at htc
                      replace htc := Lib.hid htc
                      go_wp2_with fail
                      go_region_held3 (fun w' => w'.cell? ⟨bs, oB + (j + 1), none⟩ = some (.string bk)) (first
                        | exact hcell
                        | exact hxt.cell hcellH.out (fun e => by simp at e; omega)) (first
                        | (go_at_call 18; (with_reducible refine htc.out.mono ?_); rintro e wt ⟨rfl, hokt, hxt⟩))
                      have hbtt := hxt.keep hbj (by omega)
                      go_wp2_with (refine wpList_storeC bt _ _ _ _ _ _ _ _ _ rfl _ _ rfl rfl rfl hbtt rfl (by simp [Value.oneCell']) (fun w6 hb6 hx6 => ?_))
                      try simp only [Exit.inBlock, Exit.then]
                      refine bodyPost_ret (results_row_tmp rfl _ _ bt _ _ _ _ (.int .i64 3) rfl rfl hb6 Tryz.underlying26 rfl (by kernel_rfl)) rfl ?_
                      exact ⟨.slice none 0 0, .slice none 0 0, none, none, by rw [hvR.out]; rfl, by rw [hvR.out]; exact SlO.nil _ _ _ _, by rw [hvR.out]; exact SlO.nil _ _ _ _, by simp, by simp, ((hxWH.out.trans hexj.drew (fun i hi e => by omega)).trans hxt (fun i hi e => by omega)).trans hx6 (fun i hi e => by omega)⟩
                    | some c2 =>
                      have hc2 := htk.out c2 rfl
                      have hinv2 : Hid (takesV c2 (FL.drop (j + 1)) ((Bt.drop (j + 1)).map (fun x : ByteArray => x.data.toList)) = TK) := by show _ = _; rw [hstep.out]; rfl
                      simp only [Option.isSome_some] at htc
                      replace htc := Lib.hid htc
                      go_wp2_with fail
                      go_region_held3 (fun w' => w'.cell? ⟨bs, oB + (j + 1), none⟩ = some (.string bk)) (first
                        | exact hcell
                        | exact hxt.cell hcellH.out (fun e => by simp at e; omega)) (first
                        | (go_at_call 18; (with_reducible refine htc.out.mono ?_); rintro e wt ⟨rfl, hokt, hxt⟩))
                      go_wp2_with fail
                      go_roundw
                      case rel => exact ⟨j + 1, c2, by omega, by go_num, hokt c2 rfl, hc2, hinv2.out, (hexj.drew).trans hxt (fun i hi e => e)⟩
                      case measure => simp [intOf]; omega
                  · have u60 : decide (j < n1 + 1) = false := by first | (simp; done) | (simp; omega)
                    have u61 : decide ((j : Int) < (n1 : Int) + 1) = false := by first | (simp; done) | (simp; omega)
                    have hjF : j = FL.length := by omega
                    have hTKc : Hid (TK = some cc) := by
                      show _ = _
                      rw [← hinv.out, hjF, List.drop_length]
                      cases (Bt.drop FL.length).map (fun x : ByteArray => x.data.toList) <;> rfl
                    have hvR : Hid (R = (cc, 0)) := by show _ = _; rw [hv4.out, hTKc.out]
                    obtain ⟨bv, pv, gb, gp, k1, k2, k3, k4, k5, k6, k7, k8, k9⟩ := hA
                    obtain ⟨Ap, cp, bp, op, rfl, hrp, hgp⟩ := k3.read
                    obtain ⟨Ab, cb, bb, ob, rfl, hrb, hgb⟩ := k2.read
                    go_wp2_with (first
                      | (refine wpList_load_row rfl 26 _ rfl bC rfl _ _ _ _ k1 Tryz.underlying26 rfl (by kernel_rfl) ?_)
                      | (refine wpList_storeC bt _ _ _ _ _ _ _ _ _ rfl _ _ rfl rfl rfl hbj rfl (by simp [Value.oneCell']) (fun w6 hb6 hx6 => ?_)))
                    try simp only [Exit.inBlock, Exit.then]
                    refine bodyPost_ret (results_row_tmp rfl _ _ bt _ _ _ _ (.int .i64 0) rfl rfl hb6 Tryz.underlying26 rfl (by kernel_rfl)) rfl ?_
                    have xt := (hxWH.out.trans hexj (fun i hi e => by omega)).trans hx6 (fun i hi e => by omega)
                    refine ⟨_, _, gb, gp, by rw [hvR.out], ?_, ?_, fun q hq => by have := k6 q hq; omega, fun q hq => by have := k7 q hq; omega, xt⟩
                    · rw [hvR.out]
                      exact k2.keep hx6 (fun q hq e => by have := k6 q hq; omega)
                    · rw [hvR.out]
                      exact k3.keep hx6 (fun q hq e => by have := k7 q hq; omega)
              · have u50 : ((Bt.length : Int) != ((n1 : Int) + 1)) = true := by rw [bne_iff_ne]; omega
                have u51 : ((Bt.length : Int) != ((n1 + 1 : Nat) : Int)) = true := by rw [bne_iff_ne]; omega
                have hvR : Hid (R = (Cm.zero 0, 3)) := by show _ = _; rw [hv3.out, if_neg (by omega)]
                clear hle hv3 hv2
                go_wp2_with (refine wpList_storeC bt _ _ _ _ _ _ _ _ _ rfl _ _ rfl rfl rfl hbW rfl (by simp [Value.oneCell']) (fun w6 hb6 hx6 => ?_))
                try simp only [Exit.inBlock, Exit.then]
                refine bodyPost_ret (results_row_tmp rfl _ _ bt _ _ _ _ (.int .i64 3) rfl rfl hb6 Tryz.underlying26 rfl (by kernel_rfl)) rfl ?_
                exact ⟨.slice none 0 0, .slice none 0 0, none, none, by rw [hvR.out]; rfl, by rw [hvR.out]; exact SlO.nil _ _ _ _, by rw [hvR.out]; exact SlO.nil _ _ _ _, by simp, by simp, hxW.trans hx6 (fun i hi e => by omega)⟩
        · have u1 : ((mk cmNames[i]).toList == B0.toList) = false := str_ne_toList (fun e => hm (by rw [← e]; simp [mk]))
          have hno2 : Hid (∀ j (h : j < cmNames.length), j < i + 1 → cmNames[j] ≠ B0.data.toList) := by
            intro j h hj
            by_cases hji : j = i
            · subst hji; exact hm
            · exact hno.out j h (by omega)
          generalize mk cmNames[i] = Ni at *
          go_wp2_with fail
          go_quiet (fail)
          go_wp2_with fail
          go_roundw
          case rel => exact ⟨i + 1, by omega, by go_num, hno2.out, hext.drewN _⟩
          case measure => simp [intOf]; omega
      · have t1 : decide (i < 14) = false := by simp [hlt]
        have t1' : decide ((i : Int) < 14) = false := by simp; omega
        have hfi : cmNames.findIdx? (fun x => decide (x = B0.data.toList)) = none := by
          rw [List.findIdx?_eq_none_iff]
          intro x hx
          obtain ⟨j, hj, rfl⟩ := List.mem_iff_getElem.1 hx
          have hj14 : j < 14 := hj
          simpa using hno.out j hj (by omega)
        have hvR : Hid (R = (Cm.zero 0, 3)) := by show _ = _; rw [hv.out, hfi]
        go_wp2_with (refine wpList_storeC bt _ _ _ _ _ _ _ _ _ rfl _ _ rfl rfl rfl hbr rfl (by simp [Value.oneCell']) (fun w6 hb6 hx6 => ?_))
        try simp only [Exit.inBlock, Exit.then]
        refine bodyPost_ret (results_row_tmp rfl _ _ bt _ _ _ _ (.int .i64 3) rfl rfl hb6 Tryz.underlying26 rfl (by kernel_rfl)) rfl ?_
        exact ⟨.slice none 0 0, .slice none 0 0, none, none, by rw [hvR.out]; rfl, by rw [hvR.out]; exact SlO.nil _ _ _ _, by rw [hvR.out]; exact SlO.nil _ _ _ _, by simp, by simp, hxw.trans hx6 (fun i hi e => by omega)⟩
end Go.Proofs.YtgiimmiandhkhaaGreatDoor
