/- The commands: what stands at a place; a command's line. -/
import Derived.Test.YtgiimmiandhkhaaDoorProg
import Derived.Test.YtgiimmiandhkhaaDoorCmF
namespace Go.Proofs.YtgiimmiandhkhaaDoor
open Go.RowKit
set_option linter.unusedSimpArgs false
set_option linter.unusedVariables false

/-- A command's numbers are of their kinds. -/
structure CmR (c : Cm) : Prop where
  t : -9223372036854775808 ≤ c.t ∧ c.t ≤ 9223372036854775807
  p : -9223372036854775808 ≤ c.p ∧ c.p ≤ 9223372036854775807
  i : -9223372036854775808 ≤ c.i ∧ c.i ≤ 9223372036854775807
  n : 0 ≤ c.n ∧ c.n < 18446744073709551616
  m : 0 ≤ c.m ∧ c.m < 18446744073709551616
  preds : ∀ x ∈ c.preds, -9223372036854775808 ≤ x ∧ x ≤ 9223372036854775807
def cmVal (c : Cm) (bv pv : Value) : Value := .agg #[.int .i64 c.k, .int .i64 c.t, .int .i64 c.p, .int .i64 c.i, .int .u64 c.n, .int .u64 c.m, bv, pv]
theorem itoaAll_calls (n : Int) (h0 : -9223372036854775808 ≤ n) (h1 : n ≤ 9223372036854775807) (w : World) (hG : Gl w) : Calls Tryd.prog 23 #[.int .i64 n] w fun e w' => e = .returned (.string (mk (Lib.itoa n))) ∧ Ext NoB w w' :=
  (Tryd.strconv_Itoa n (by omega) (by omega) w hG.tab).mono fun e w' ⟨he, k, os, hw⟩ => ⟨he, by rw [hw]; exact ext_grow w k os⟩
theorem fmtN_calls (n : Int) (h : 0 ≤ n ∧ n < 18446744073709551616) (w : World) (hG : Gl w) : Calls Tryd.prog 34 #[.int .u64 n, .int .i64 10] w fun e w' => e = .returned (.string (mk (Lib.decDigits n.toNat))) ∧ Ext NoB w w' := by
  obtain ⟨u, rfl⟩ : ∃ u : Nat, n = u := ⟨n.toNat, by omega⟩
  exact fmtU_calls u (by omega) w hG
theorem textL_le (l : List BOp) (h : okB l = true) : (textL l).length ≤ 816 := by
  have h' := h
  unfold okB at h'
  rw [Bool.and_eq_true, decide_eq_true_iff] at h'
  unfold textL
  split
  · simp
  · have := join_len [59] (l.map toldL) 50 (fun x hx => by
      obtain ⟨y, hy, rfl⟩ := List.mem_map.1 hx
      exact told_le y (List.all_eq_true.1 h'.2 y hy)) (by simp)
    rw [List.length_map] at this
    omega
theorem bodyC_le (l : List BOp) : (bodyC l).length ≤ 816 := by
  unfold bodyC uncomma
  rw [List.length_map]
  split
  · rename_i h; exact textL_le l h
  · simp

set_option maxRecDepth 20000 in
set_option maxHeartbeats 8000000 in
theorem toldC_calls (c : Cm) (what : Int) (hwh : 1 ≤ what ∧ what ≤ 6) (hR : CmR c) (Ab Ap : Option Addr) (cb bb ob np cp : Nat) (w : World) (hG : Gl w) (hb : SlR w 3 opB Ab cb bb ob c.body) :
    Calls Tryd.prog 22 #[cmVal c (.slice Ab c.body.length cb) (.slice Ap np cp), .int .i64 what] w fun e w' => e = .returned (.string (mk (toldC c what))) ∧ Ext NoB w w' := by
  unfold cmVal
  have hwc : what = 1 ∨ what = 2 ∨ what = 3 ∨ what = 4 ∨ what = 5 ∨ what = 6 := by omega
  have hx0 : Ext NoB w (w.alloc (.cells #[.int .i64 c.k, .int .i64 c.t, .int .i64 c.p, .int .i64 c.i, .int .u64 c.n, .int .u64 c.m, .slice Ab c.body.length cb, .slice Ap np cp] 29)) := (Ext.refl NoB w).alloc _
  have hG0 := hG.keep hx0
  rcases hwc with rfl | rfl | rfl | rfl | rfl | rfl
  · have hv : Hid (toldC c 1 = Lib.itoa c.t) := rfl
    have hi := Lib.hid (itoaAll_calls c.t hR.t.1 hR.t.2 _ hG0)
    generalize hS : mk (Lib.itoa c.t) = S at *
    have hS := Lib.hid hS
    go_enter Tryd.func22, Tryd.ntmps22
    go_wp2_with fail
    refine hi.out.mono ?_
    rintro e w1 ⟨rfl, hx1⟩
    go_wp2_with fail
    go_ret
    exact ⟨by rw [hv.out, hS.out]; rfl, hx0.trans hx1 (fun _ _ e => e)⟩
  · have hv : Hid (toldC c 2 = Lib.itoa c.p) := rfl
    have hi := Lib.hid (itoaAll_calls c.p hR.p.1 hR.p.2 _ hG0)
    generalize hS : mk (Lib.itoa c.p) = S at *
    have hS := Lib.hid hS
    go_enter Tryd.func22, Tryd.ntmps22
    go_wp2_with fail
    refine hi.out.mono ?_
    rintro e w1 ⟨rfl, hx1⟩
    go_wp2_with fail
    go_ret
    exact ⟨by rw [hv.out, hS.out]; rfl, hx0.trans hx1 (fun _ _ e => e)⟩
  · have hv : Hid (toldC c 3 = Lib.itoa c.i) := rfl
    have hi := Lib.hid (itoaAll_calls c.i hR.i.1 hR.i.2 _ hG0)
    generalize hS : mk (Lib.itoa c.i) = S at *
    have hS := Lib.hid hS
    go_enter Tryd.func22, Tryd.ntmps22
    go_wp2_with fail
    refine hi.out.mono ?_
    rintro e w1 ⟨rfl, hx1⟩
    go_wp2_with fail
    go_ret
    exact ⟨by rw [hv.out, hS.out]; rfl, hx0.trans hx1 (fun _ _ e => e)⟩
  · have hv : Hid (toldC c 4 = Lib.decDigits c.n.toNat) := rfl
    have hi := Lib.hid (fmtN_calls c.n hR.n _ hG0)
    generalize hS : mk (Lib.decDigits c.n.toNat) = S at *
    have hS := Lib.hid hS
    go_enter Tryd.func22, Tryd.ntmps22
    go_wp2_with fail
    refine hi.out.mono ?_
    rintro e w1 ⟨rfl, hx1⟩
    go_wp2_with fail
    go_ret
    exact ⟨by rw [hv.out, hS.out]; rfl, hx0.trans hx1 (fun _ _ e => e)⟩
  · have hv : Hid (toldC c 5 = Lib.decDigits c.m.toNat) := rfl
    have hi := Lib.hid (fmtN_calls c.m hR.m _ hG0)
    generalize hS : mk (Lib.decDigits c.m.toNat) = S at *
    have hS := Lib.hid hS
    go_enter Tryd.func22, Tryd.ntmps22
    go_wp2_with fail
    refine hi.out.mono ?_
    rintro e w1 ⟨rfl, hx1⟩
    go_wp2_with fail
    go_ret
    exact ⟨by rw [hv.out, hS.out]; rfl, hx0.trans hx1 (fun _ _ e => e)⟩
  · have hv : Hid (toldC c 6 = bodyC c.body) := rfl
    have hi := Lib.hid (text_calls Ab cb bb ob c.body _ hG0 (hb.keep hx0 nb1))
    go_enter Tryd.func22, Tryd.ntmps22
    go_wp2_with fail
    refine hi.out.mono ?_
    rintro e w1 ⟨rfl, hx1⟩
    have hsz : (if okB c.body then mk (textL c.body) else (⟨#[]⟩ : ByteArray)).size ≤ 1000000 := by
      split
      · rename_i h; have := textL_le _ h; rw [mk_size]; omega
      · exact Nat.zero_le _
    have hr := replAll_calls (if okB c.body then mk (textL c.body) else (⟨#[]⟩ : ByteArray)) 32 44 (by decide) hsz w1 (hG0.keep hx1)
    have hbc : mk ((if okB c.body then mk (textL c.body) else (⟨#[]⟩ : ByteArray)).data.toList.map (fun x => if x = 32 then 44 else x)) = mk (bodyC c.body) := by
      unfold bodyC uncomma
      by_cases h : okB c.body = true
      · rw [if_pos h, if_pos h, show (mk (textL c.body)).data.toList = textL c.body by simp [mk]]
      · rw [if_neg h, if_neg h]
    rw [hbc] at hr
    have hr := Lib.hid hr
    clear hbc hsz
    generalize hS : mk (bodyC c.body) = S at *
    have hS := Lib.hid hS
    generalize (if okB c.body then mk (textL c.body) else (⟨#[]⟩ : ByteArray)) = S0 at *
    generalize (if okB c.body then (0 : Int) else 1) = er at *
    go_wp2_with fail
    refine hr.out.mono ?_
    rintro e w2 ⟨rfl, hx2⟩
    go_wp2_with fail
    go_ret
    exact ⟨by rw [hv.out, hS.out]; rfl, (hx0.trans hx1 (fun _ _ e => e)).trans hx2 (fun _ _ e => e)⟩

theorem place_all (k : Nat) (h1 : 1 ≤ k) (h14 : k ≤ 14) (j : Nat) : placeOf (k : Int) j = (((cmForm k)[j]?).map signOf).getD 0 := by
  by_cases hk : k = 1
  · subst hk
    by_cases hj : 4 ≤ j
    · have hbig : placeOf ((1 : Nat) : Int) j = 0 := by
        unfold placeOf
        rw [mget_none.2]
        · rfl
        · intro p hp he
          have : p.1.1 = 1 → p.1.2 ≤ 3 := by
            have : ∀ p ∈ placesL, p.1.1 = 1 → p.1.2 ≤ 3 := by decide
            exact this p hp
          rw [he] at this
          have := this rfl
          simp at this
          omega
      rw [hbig, List.getElem?_eq_none (by show 4 ≤ j; omega)]; rfl
    · have hj' : j = 0 ∨ j = 1 ∨ j = 2 ∨ j = 3 := by omega
      rcases hj' with rfl | rfl | rfl | rfl <;> decide
  · exact place_form k h1 h14 hk j
theorem form_le (k : Nat) : (cmForm k).length ≤ 5 := by unfold cmForm; split <;> decide
theorem form_sign (k : Nat) : ∀ f ∈ cmForm k, (f = 108 ∧ signOf f = 7) ∨ (f ≠ 108 ∧ 1 ≤ signOf f ∧ signOf f ≤ 6) := by
  unfold cmForm; split <;> decide
theorem toldC_le (c : Cm) (hR : CmR c) (what : Int) : (toldC c what).length ≤ 816 := by
  unfold toldC
  have hi := fun (n : Int) (h : -9223372036854775808 ≤ n ∧ n ≤ 9223372036854775807) => Lib.itoa_length_le n h.1 h.2
  have hd : ∀ n : Int, 0 ≤ n ∧ n < 18446744073709551616 → (Lib.decDigits n.toNat).length ≤ 816 := by
    intro n hn
    rw [Lib.decDigits_length]
    have key : ∀ k u : Nat, u < 10 ^ (k + 1) → Lib.nDigits u ≤ k + 1 := by
      intro k
      induction k with
      | zero => intro u hu; rw [Lib.nDigits_small (by omega)]; omega
      | succ k ih =>
        intro u hu
        by_cases h : u < 10
        · rw [Lib.nDigits_small h]; omega
        · rw [Lib.nDigits_big h]
          have := ih (u / 10) (by rw [Nat.pow_succ] at hu ⊢; rw [Nat.pow_succ] at hu; omega)
          omega
    have := key 19 n.toNat (by have : (10 : Nat) ^ 20 = 100000000000000000000 := rfl; omega)
    omega
  have ht := hi c.t hR.t
  have hp := hi c.p hR.p
  have hii := hi c.i hR.i
  have hn := hd c.n hR.n
  have hm := hd c.m hR.m
  have hb := bodyC_le c.body
  (repeat' split) <;> omega
theorem wordOf_le (k : Int) : (wordOf k).length ≤ 8 := by
  unfold wordOf
  cases h : cmNames[(k - 1).toNat]? with
  | none => simp
  | some x =>
    have : ∀ y ∈ cmNames, y.length ≤ 8 := by decide
    exact this x (List.mem_of_getElem? h)

theorem strs_app (B : List ByteArray) (l : List UInt8) : (B ++ [mk l]).map (fun x : ByteArray => x.data.toList) = B.map (fun x : ByteArray => x.data.toList) ++ [l] := by
  rw [List.map_append]; simp [mk]
attribute [local go_sem] namesV
set_option maxRecDepth 40000 in
set_option maxHeartbeats 16000000 in
theorem line_calls (c : Cm) (hk : 1 ≤ c.k ∧ c.k ≤ 14) (hR : CmR c) (Ab Ap : Option Addr) (cb bb ob cp bp op : Nat) (w : World) (hG : Gl w) (hb : SlR w 3 opB Ab cb bb ob c.body) (hp : SlR w 1 intE Ap cp bp op c.preds) :
    Calls Tryd.prog 17 #[cmVal c (.slice Ab c.body.length cb) (.slice Ap c.preds.length cp)] w fun e w' => e = .returned (.string (mk (lineV c))) ∧ Ext NoB w w' := by
  obtain ⟨k, hkk, h1, h14⟩ : ∃ k : Nat, c.k = (k : Int) ∧ 1 ≤ k ∧ k ≤ 14 := ⟨c.k.toNat, by omega, by omega, by omega⟩
  have hfin : Hid (lineV c = Lib.join (wordOf c.k :: (cmForm k).flatMap (argC c)) [32]) := by show _ = _; unfold lineV argsC; rw [hkk]; rfl
  have hx0 : Ext NoB w (w.alloc (.cells #[.int .i64 (k : Int), .int .i64 c.t, .int .i64 c.p, .int .i64 c.i, .int .u64 c.n, .int .u64 c.m, .slice Ab c.body.length cb, .slice Ap c.preds.length cp] 29)) := (Ext.refl NoB w).alloc _
  have hb0 := alloc_at w (.cells #[.int .i64 (k : Int), .int .i64 c.t, .int .i64 c.p, .int .i64 c.i, .int .u64 c.n, .int .u64 c.m, .slice Ab c.body.length cb, .slice Ap c.preds.length cp] 29)
  have hpm := hp.max
  have hpl := hp.le
  unfold maxLen at hpm
  have hcv : cmVal c (.slice Ab c.body.length cb) (.slice Ap c.preds.length cp) = .agg #[.int .i64 (k : Int), .int .i64 c.t, .int .i64 c.p, .int .i64 c.i, .int .u64 c.n, .int .u64 c.m, .slice Ab c.body.length cb, .slice Ap c.preds.length cp] := by unfold cmVal; rw [hkk]
  rw [hcv]
  have hcv := Lib.hid hcv
  go_enter Tryd.func17, Tryd.ntmps17
  go_wp2_with fail
  obtain ⟨bx, hbx⟩ : ∃ bx, w.heap.size = bx := ⟨_, rfl⟩
  rw [hbx] at hb0 ⊢
  generalize w.alloc (.cells #[.int .i64 (k : Int), .int .i64 c.t, .int .i64 c.p, .int .i64 c.i, .int .u64 c.n, .int .u64 c.m, .slice Ab c.body.length cb, .slice Ap c.preds.length cp] 29) = w0 at *
  refine (cmWords_calls w0).mono ?_
  rintro e w1 ⟨rfl, hx1⟩
  have hx3 : Ext NoB w1 (w1.alloc (.cells namesV 41)) := (Ext.refl NoB w1).alloc _
  have hbw := alloc_at w1 (.cells namesV 41)
  have hb3 := hx3.keep (hx1.keep hb0 nb) nb
  have f3 := cell_of_row _ bx 0 _ _ (0, 0) hb3
  have f3 : (w1.alloc (.cells namesV 41)).cell? ⟨bx, 0, none⟩ = some (.int .i64 (k : Int)) := f3
  have hwk : (w1.alloc (.cells namesV 41)).cell? ⟨w1.heap.size, k, none⟩ = some (.string (mk (wordOf c.k))) := by
    rw [cell_of_row _ w1.heap.size k _ _ (0, 0) hbw, hkk]
    have : k = 1 ∨ k = 2 ∨ k = 3 ∨ k = 4 ∨ k = 5 ∨ k = 6 ∨ k = 7 ∨ k = 8 ∨ k = 9 ∨ k = 10 ∨ k = 11 ∨ k = 12 ∨ k = 13 ∨ k = 14 := by omega
    rcases this with rfl | rfl | rfl | rfl | rfl | rfl | rfl | rfl | rfl | rfl | rfl | rfl | rfl | rfl <;> rfl
  have hx03 := (hx0.trans hx1 (fun _ _ e => e)).trans hx3 (fun _ _ e => e)
  have hk0 : (0 : Int) ≤ (k : Int) := by omega
  have hk15 : (k : Int) < 15 := by omega
  have hkn : k < 15 := by omega
  have hx3' := hx3
  unfold namesV at f3 hwk hx03 hb3 hbw hx3'
  go_wp2_with fail
  clear hwk hbw f3
  obtain ⟨g0, hg0⟩ : ∃ g0, w1.heap.size + 1 = g0 := ⟨_, rfl⟩
  have hO4 : SlO ((w1.alloc (.cells #[.string ⟨#[]⟩, .string (mk [115, 117, 98, 109, 105, 116]), .string (mk [97, 102, 116, 101, 114]), .string (mk [101, 118, 101, 114, 121]), .string (mk [99, 97, 110, 99, 101, 108]), .string (mk [97, 100, 118, 97, 110, 99, 101]), .string (mk [112, 105, 99, 107]), .string (mk [114, 111, 117, 110, 100]), .string (mk [114, 101, 115, 116]), .string (mk [115, 116, 97, 116, 117, 115]), .string (mk [115, 116, 97, 116, 101]), .string (mk [99, 108, 111, 115, 101]), .string (mk [115, 104, 117, 116, 100, 111, 119, 110]), .string (mk [101, 118, 101, 110, 116, 115]), .string (mk [114, 104, 111])] 41)).alloc (.cells #[.string (mk (wordOf (k : Int)))] 9)) 9 1 strE (some g0) (.slice (some ⟨g0, 0, none⟩) 1 1) [mk (wordOf c.k)] :=
    SlO.made (xs := [mk (wordOf c.k)]) (alloc_at' _ _ _ (by simp; omega)) (by rw [hkk]; rfl) strE_len (by show 1 ≤ maxLen; decide)
  have hx4 := hx03.alloc (.cells #[.string (mk (wordOf (k : Int)))] 9)
  have hb4 := ((Ext.refl NoB _).alloc (.cells #[.string (mk (wordOf (k : Int)))] 9)).keep hb3 nb
  have hx14 := hx3'.alloc (.cells #[.string (mk (wordOf (k : Int)))] 9)
  rw [hg0]
  generalize (w1.alloc (.cells #[.string ⟨#[]⟩, .string (mk [115, 117, 98, 109, 105, 116]), .string (mk [97, 102, 116, 101, 114]), .string (mk [101, 118, 101, 114, 121]), .string (mk [99, 97, 110, 99, 101, 108]), .string (mk [97, 100, 118, 97, 110, 99, 101]), .string (mk [112, 105, 99, 107]), .string (mk [114, 111, 117, 110, 100]), .string (mk [114, 101, 115, 116]), .string (mk [115, 116, 97, 116, 117, 115]), .string (mk [115, 116, 97, 116, 101]), .string (mk [99, 108, 111, 115, 101]), .string (mk [115, 104, 117, 116, 100, 111, 119, 110]), .string (mk [101, 118, 101, 110, 116, 115]), .string (mk [114, 104, 111])] 41)).alloc (.cells #[.string (mk (wordOf (k : Int)))] 9) = w4 at *
  clear hb3 hx03 hx3 hx3'
  refine (places_calls w4).mono ?_
  rintro e w5 ⟨r, m, rfl, hM, hperm, hx5, hr⟩
  have hperm := Lib.hid hperm
  have hb5 := hx5.keep hb4 nb
  have hO5 := hO4.keep hx5 (fun _ _ => nb)
  have hx05 := hx4.trans hx5 (fun _ _ e => e)
  have hbxg : bx < g0 := by
    have h1 := lt_of_block hb0
    have h2 := hx1.size
    omega
  have hrg : g0 < r := by have := hO4.lt rfl; omega
  have hwg : w.heap.size < g0 := by omega
  have hg5 : g0 < w5.heap.size := by have := hO5.lt rfl; omega
  have hFl := form_le k
  have hFs := Lib.hid (form_sign k)
  have hpa := Lib.hid (place_all k h1 h14)
  have hto : Hid (∀ (what : Int) (wr : World), 1 ≤ what → what ≤ 6 → Gl wr → SlR wr 3 opB Ab cb bb ob c.body → Calls Tryd.prog 22 #[.agg #[.int .i64 (k : Int), .int .i64 c.t, .int .i64 c.p, .int .i64 c.i, .int .u64 c.n, .int .u64 c.m, .slice Ab c.body.length cb, .slice Ap c.preds.length cp], .int .i64 what] wr fun e w' => e = .returned (.string (mk (toldC c what))) ∧ Ext NoB wr w') := fun what wr a1 a2 a3 a4 => by
    have := toldC_calls c what ⟨a1, a2⟩ hR Ab Ap cb bb ob c.preds.length cp wr a3 a4
    rw [hcv.out] at this
    exact this
  have hbb : Hid (0 < c.body.length → bb < w.heap.size) := fun h0 => World.block_lt_of_cell? w _ (hb.cell opB_len 0 c.body[0] (List.getElem?_eq_getElem h0) 0 _ rfl)
  have hpb : Hid (0 < c.preds.length → bp < w.heap.size) := fun h0 => World.block_lt_of_cell? w _ (hp.cell intE_len 0 c.preds[0] (List.getElem?_eq_getElem h0) 0 _ rfl)
  have hbw5 := Lib.hid (hb.keep hx05 nb1)
  have hpw5 := Lib.hid (hp.keep hx05 nb1)
  have hGw := Lib.hid hG
  have hpl' := Lib.hid hpl
  have hsz5 : w.heap.size ≤ w5.heap.size := hx05.size
  clear hb hp hG hx1 hb0 hb4 hO4 hx4 hx14 hx0
  go_wp2_with fail
  go_loopw [4, 6] (fun ov iv wr => ∃ (i : Nat) (go : Option Nat) (B : List ByteArray), i ≤ (cmForm k).length ∧ iv = .int .i64 (i : Int) ∧ SlO wr 9 1 strE go ov B ∧ Hid (B.map (fun x : ByteArray => x.data.toList) = wordOf c.k :: ((cmForm k).take i).flatMap (argC c)) ∧ B.length ≤ 1 + 17 * i ∧ Hid (∀ x ∈ B, x.size ≤ 816) ∧ Ext (· = g0) w5 wr ∧ (∀ q, go = some q → q = g0 ∨ w5.heap.size ≤ q)) (fun _ iv _ => (cmForm k).length - (intOf iv).toNat)
  case atStart =>
    refine ⟨0, some g0, [mk (wordOf c.k)], Nat.zero_le _, rfl, hO5, ?_, by simp, ?_, Ext.refl _ _, fun q hq => .inl (Option.some.inj hq).symm⟩
    · show _ = _; simp [mk]
    · intro x hx; rw [List.mem_singleton] at hx; subst hx; rw [mk_size]; have := wordOf_le c.k; omega
  case round =>
    obtain ⟨i, go, B, hi, rfl, hO, hBm, hBl, hBs, hext, hgo⟩ := hrel
    have hMr := hM.keep hext (by omega)
    have hlk := place_look hMr hperm.out k i
    have hbr := hext.keep hb5 (by omega)
    have f0 : wr.cell? ⟨bx, 0, none⟩ = some (.int .i64 (k : Int)) := cell_of_row wr bx 0 _ _ (0, 0) hbr
    have hwr := hext.size
    have xw : Ext (· = g0) w wr := (hx05.mono (fun _ _ e => e.elim)).trans hext (fun _ _ e => e)
    have hGr : Gl wr := hGw.out.keep' xw (fun i hi e => by omega)
    have hbwr : SlR wr 3 opB Ab cb bb ob c.body := hbw5.out.keep hext (fun h0 e => by have := hbb.out h0; omega)
    by_cases hlt : i < (cmForm k).length
    · have hpl := hpa.out i
      rw [List.getElem?_eq_getElem hlt, Option.map_some, Option.getD_some] at hpl
      have hfs := hFs.out _ (List.getElem_mem hlt)
      have htk : Hid (((cmForm k).take (i + 1)).flatMap (argC c) = ((cmForm k).take i).flatMap (argC c) ++ argC c (cmForm k)[i]) := by
        show _ = _
        rw [List.take_succ_eq_append_getElem hlt, List.flatMap_append]
        simp
      generalize (cmForm k)[i] = f at *
      rcases hfs with ⟨rfl, hf7⟩ | ⟨hf, hf1, hf6⟩
      · rw [hf7] at hpl
        have hac : Hid (argC c 108 = (c.preds.take 17).map Lib.itoa) := by show _ = _; unfold argC; rw [if_pos rfl]
        have f7 : wr.cell? ⟨bx, 7, none⟩ = some (.slice Ap c.preds.length cp) := cell_of_row wr bx 7 _ _ (0, 0) hbr
        obtain ⟨n17, hn17, hmin⟩ : ∃ n17 : Nat, n17 = min c.preds.length 17 ∧ min (c.preds.length : Int) 17 = (n17 : Int) := ⟨min c.preds.length 17, rfl, by omega⟩
        have hn17c : n17 ≤ cp := by have := hpl'.out; omega
        have hn17p : n17 ≤ c.preds.length := by omega
        have hn17b : n17 ≤ 17 := by omega
        have htk17 : Hid (c.preds.take n17 = c.preds.take 17) := by
          show _ = _
          rw [hn17]
          by_cases h : c.preds.length ≤ 17
          · rw [Nat.min_eq_left h, List.take_of_length_le (Nat.le_refl _), List.take_of_length_le h]
          · rw [Nat.min_eq_right (by omega)]
        have hpw : SlR wr 1 intE Ap cp bp op c.preds := hpw5.out.keep hext (fun h0 e => by have := hpb.out h0; omega)
        have hpt := Lib.hid (hpw.take intE_len hn17p)
        clear hn17
        have hacc : Hid (wordOf c.k :: ((cmForm k).take (i + 1)).flatMap (argC c) = B.map (fun x : ByteArray => x.data.toList) ++ (c.preds.take n17).map Lib.itoa) := by show _ = _; rw [htk.out, hac.out, htk17.out, hBm.out]; rfl
        rw [hpl] at hlk
        clear hpl hBm htk htk17 hac
        have hextH := Lib.hid hext
        have hgoH := Lib.hid hgo
        clear hext hgo
        go_wp2_with fail
        go_loopw [4, 48] (fun ov jv wq => ∃ (j : Nat) (gq : Option Nat) (B2 : List ByteArray), j ≤ n17 ∧ jv = .int .i64 (j : Int) ∧ SlO wq 9 1 strE gq ov B2 ∧ Hid (B2.map (fun x : ByteArray => x.data.toList) = B.map (fun x : ByteArray => x.data.toList) ++ (c.preds.take j).map Lib.itoa) ∧ B2.length = B.length + j ∧ Hid (∀ x ∈ B2, x.size ≤ 816) ∧ Ext (· = g0) w5 wq ∧ (∀ q, gq = some q → q = g0 ∨ w5.heap.size ≤ q)) (fun _ jv _ => n17 - (intOf jv).toNat)
        case atStart => exact ⟨0, go, B, Nat.zero_le _, rfl, hO, by show _ = _; simp, rfl, hBs, hextH.out, hgoH.out⟩
        case round =>
          obtain ⟨j, gq, B2, hj, rfl, hO2, hB2, hB2l, hB2s, hext2, hgo2⟩ := hrel
          have hext2' := Lib.hid hext2
          by_cases hjl : j < n17
          · have t2 : decide (j < n17) = true := by simp [hjl]
            have t2' : decide ((j : Int) < (n17 : Int)) = true := by simp [hjl]
            obtain rfl := hpt.out.addr (by rw [List.length_take]; omega)
            have hjp : j < c.preds.length := by omega
            have hcellp := (hpw5.out.keep hext2 (fun h0 e => by have := hpb.out h0; omega)).cell intE_len j c.preds[j] (List.getElem?_eq_getElem hjp) 0 _ rfl
            rw [Nat.mul_one, Nat.add_zero] at hcellp
            have hbnd := hR.preds _ (List.getElem_mem hjp)
            have htj : Hid (c.preds.take (j + 1) = c.preds.take j ++ [c.preds[j]]) := List.take_succ_eq_append_getElem hjp
            have xw2 := (hx05.mono (G := (· = g0)) (fun _ _ e => e.elim)).trans hext2 (fun _ _ e => e)
            have hGr2 : Gl _ := hGw.out.keep' xw2 (fun i hi e => by omega)
            generalize c.preds[j] = px at *
            have hit := Lib.hid (itoaAll_calls px hbnd.1 hbnd.2 _ hGr2)
            have hil := Lib.itoa_length_le px hbnd.1 hbnd.2
            have hb1 : (B2.length + 1) * 16 ≤ 140737488355328 := by omega
            have hb2 : B2.length + 1 ≤ maxLen := by unfold maxLen; omega
            have hB3 : Hid ((B2 ++ [mk (Lib.itoa px)]).map (fun x : ByteArray => x.data.toList) = B.map (fun x : ByteArray => x.data.toList) ++ (c.preds.take (j + 1)).map Lib.itoa) := by
              show _ = _
              rw [strs_app, hB2.out, htj.out, List.map_append, List.append_assoc]; rfl
            have hsx : (mk (Lib.itoa px)).size ≤ 816 := by rw [mk_size]; omega
            generalize mk (Lib.itoa px) = Sx at *
            go_wp2_with fail
            refine hit.out.mono ?_
            rintro e w6 ⟨rfl, hx6⟩
            have hO6 := hO2.keep hx6 (fun _ _ => nb)
            go_wp2_with (at_builtin; go_loud (refine wpList_appendO (ys := [Sx]) rfl rfl elem_str strE_len strE_one (hO6.keep ((Ext.refl NoB _).alloc _) (fun _ _ => nb)) rfl (SlR.one' (alloc_at' _ _ _ (by simp)) rfl) rfl rfl hb1 hb2 (fun v' w7 g' hO' hx7 hg' => ?_)))
            go_roundw
            case rel =>
              refine ⟨j + 1, g', B2 ++ [Sx], by omega, by go_num, hO', hB3.out, by simp; omega, ?_, (hext2'.out.trans (hx6.alloc _) (fun _ _ e => e.elim)).trans hx7 (fun i hi e => by rcases hgo2 i e with h | h <;> omega), fun q hq => ?_⟩
              · intro x hx
                rcases List.mem_append.1 hx with hx | hx
                · exact hB2s.out x hx
                · rw [List.mem_singleton] at hx; subst hx; exact hsx
              · rcases hg' with rfl | rfl
                · exact hgo2 q hq
                · right
                  simp only [Option.some.injEq] at hq
                  have h1 := hext2'.out.size
                  have h2 := hx6.size
                  simp at hq
                  omega
            case measure => simp [intOf]; omega
          · have t2 : decide (j < n17) = false := by simp [hjl]
            have t2' : decide ((j : Int) < (n17 : Int)) = false := by simp [hjl]
            obtain rfl : j = n17 := by omega
            go_wp2_with fail
            go_roundw
            case rel => exact ⟨i + 1, gq, B2, by omega, by go_num, hO2, by show _ = _; rw [hB2.out, hacc.out], by omega, hB2s, hext2'.out, hgo2⟩
            case measure => simp [intOf]; omega
      · have hac : Hid (argC c f = [toldC c (signOf f)]) := by show _ = _; unfold argC; rw [if_neg hf]
        have hsx : (mk (toldC c (signOf f))).size ≤ 816 := by rw [mk_size]; exact toldC_le c hR _
        have htc := Lib.hid (hto.out (signOf f) wr hf1 hf6 hGr hbwr)
        have hB3 : Hid ((B ++ [mk (toldC c (signOf f))]).map (fun x : ByteArray => x.data.toList) = wordOf c.k :: ((cmForm k).take (i + 1)).flatMap (argC c)) := by
          show _ = _
          rw [strs_app, hBm.out, htk.out, hac.out]; rfl
        have hb1 : (B.length + 1) * 16 ≤ 140737488355328 := by omega
        have hb2 : B.length + 1 ≤ maxLen := by unfold maxLen; omega
        have t7 : (signOf f != 7) = true := by rw [bne_iff_ne]; omega
        have t0 : (signOf f != 0) = true := by rw [bne_iff_ne]; omega
        rw [hpl] at hlk
        generalize mk (toldC c (signOf f)) = Sx at *
        generalize signOf f = pl at *
        have hextH := Lib.hid hext
        clear hBm htk hac hpl hext
        go_wp2_with (refine wpList_load_row rfl 29 _ rfl bx rfl _ _ _ _ hbr Tryd.underlying29 rfl (by kernel_rfl) ?_)
        refine htc.out.mono ?_
        rintro e w6 ⟨rfl, hx6⟩
        have hO6 := hO.keep hx6 (fun _ _ => nb)
        go_wp2_with (at_builtin; go_loud (refine wpList_appendO (ys := [Sx]) rfl rfl elem_str strE_len strE_one (hO6.keep ((Ext.refl NoB _).alloc _) (fun _ _ => nb)) rfl (SlR.one' (alloc_at' _ _ _ (by simp)) rfl) rfl rfl hb1 hb2 (fun v' w7 g' hO' hx7 hg' => ?_)))
        go_roundw
        case rel =>
          refine ⟨i + 1, g', B ++ [Sx], by omega, by go_num, hO', hB3.out, by simp; omega, ?_, (hextH.out.trans (hx6.alloc _) (fun _ _ e => e.elim)).trans hx7 (fun i hi e => by rcases hgo i e with h | h <;> omega), fun q hq => ?_⟩
          · intro x hx
            rcases List.mem_append.1 hx with hx | hx
            · exact hBs.out x hx
            · rw [List.mem_singleton] at hx; subst hx; exact hsx
          · rcases hg' with rfl | rfl
            · exact hgo q hq
            · right
              simp only [Option.some.injEq] at hq
              have h1 := hextH.out.size
              have h2 := hx6.size
              simp at hq
              omega
        case measure => simp [intOf]; omega
    · obtain rfl : i = (cmForm k).length := by omega
      have hpl := hpa.out (cmForm k).length
      rw [List.getElem?_eq_none (Nat.le_refl _)] at hpl
      have hpl : placeOf (k : Int) ((cmForm k).length : Int) = 0 := hpl
      rw [hpl] at hlk
      have hBm2 : B.map (fun x : ByteArray => x.data.toList) = wordOf c.k :: (cmForm k).flatMap (argC c) := by have := hBm.out; rw [List.take_length] at this; exact this
      have hBpos : 0 < B.length := by
        have := congrArg List.length hBm2
        simp at this
        omega
      obtain ⟨A3, c3, b3, o3, rfl, hr3, hg3⟩ := hO.read
      obtain rfl := hr3.addr hBpos
      have hlt3 : b3 < wr.heap.size := World.block_lt_of_cell? wr _ (hr3.cell strE_len 0 _ (List.getElem?_eq_getElem hBpos) 0 _ rfl)
      have hjl : (Lib.join (B.map (·.data.toList)) (⟨#[32]⟩ : ByteArray).data.toList).length ≤ 140737488355328 := by
        have := join_len [32] (B.map (fun x : ByteArray => x.data.toList)) 816 (fun x hx => by
          obtain ⟨y, hy, rfl⟩ := List.mem_map.1 hx
          have := hBs.out y hy
          rw [Array.length_toList]; exact this) (by simp)
        rw [List.length_map] at this
        have h2 : B.length ≤ 86 := by omega
        have h3 : B.length * (816 + 1) ≤ 86 * 817 := Nat.mul_le_mul_right _ h2
        exact Nat.le_trans this (by omega)
      have hj := Tryd.strings_Join b3 o3 c3 B ⟨#[32]⟩ wr (fun j x hj => str_cells hr3 j x hj) hlt3 (by omega) hr3.le hjl
      have hres : Hid ((⟨(Lib.join (B.map (·.data.toList)) (⟨#[32]⟩ : ByteArray).data.toList).toArray⟩ : ByteArray) = mk (lineV c)) := by
        show _ = _
        rw [hfin.out, ← hBm2]; rfl
      have hj := Lib.hid hj
      generalize (⟨(Lib.join (B.map (·.data.toList)) (⟨#[32]⟩ : ByteArray).data.toList).toArray⟩ : ByteArray) = jt at *
      clear hO hBm hBm2 hpl
      go_wp2_with fail
      refine hj.out.mono ?_
      rintro e w7 ⟨rfl, hx7⟩
      go_wp2_with fail
      go_ret
      exact ⟨by rw [hres.out]; rfl, ((hx05.trans (hext.mono (G := fun i => i = g0) (fun _ _ e => e)) (fun i hi e => by omega)).trans (Ext.of_below (F := NoB) hx7) (fun _ _ e => e))⟩
end Go.Proofs.YtgiimmiandhkhaaDoor
