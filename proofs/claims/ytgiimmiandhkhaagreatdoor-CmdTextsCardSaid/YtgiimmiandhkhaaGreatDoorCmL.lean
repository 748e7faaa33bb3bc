/- The commands: the document's Digits, num, Num at any number; its Line. Printed by gen-cml.py. -/
import Derived.Test.YtgiimmiandhkhaaGreatDoorProg
import Derived.Test.YtgiimmiandhkhaaGreatDoorCmK
namespace Go.Proofs.YtgiimmiandhkhaaGreatDoor
open Go.RowKit
set_option linter.unusedSimpArgs false
set_option linter.unusedVariables false

theorem dec_le20 (n : Nat) (hn : n < 18446744073709551616) : (Lib.decDigits n).length ≤ 20 := by
  rw [Lib.decDigits_length]
  have key : ∀ k u : Nat, u < 10 ^ (k + 1) → Lib.nDigits u ≤ k + 1 := by
    intro k
    induction k with
    | zero => intro u hu; rw [Lib.nDigits_small (by omega)]; omega
    | succ k ih =>
      intro u hu
      by_cases h : u < 10
      · rw [Lib.nDigits_small h]; omega
      · rw [Lib.nDigits_big h]
        have := ih (u / 10) (by rw [Nat.pow_succ] at hu ⊢; rw [Nat.pow_succ] at hu; omega)
        omega
  exact key 19 n (by have : (10 : Nat) ^ 20 = 100000000000000000000 := rfl; omega)
set_option maxRecDepth 20000 in
set_option maxHeartbeats 2000000 in
theorem digitsU_calls (n : Nat) (hn : n < 18446744073709551616) (w : World) : Calls Tryz.prog 36 #[.int .u64 (n : Int)] w fun e w' => e = .returned (.string (mk (Lib.decDigits n))) ∧ Ext NoB w w' := by
  have hlen : (Lib.decDigits n).length ≤ 20 := dec_le20 n hn
  go_enter Tryz.func36, Tryz.ntmps36
  go_wp2_with fail
  go_loopw [0, 3] (fun i s wr => ∃ (m : Nat) (sl : List UInt8), m < 18446744073709551616 ∧ i = .int .u64 (m : Int) ∧ s = .string (mk sl) ∧ Hid (Lib.decDigits n = Lib.decDigits m ++ sl) ∧ Ext NoB w wr) (fun i _ _ => (intOf i).toNat)
  case atStart => exact ⟨n, [], hn, rfl, rfl, by show _ = _; simp, Ext.refl _ _⟩
  case round =>
    obtain ⟨m, sl, hm, rfl, rfl, hd, hext⟩ := hrel
    have hsl : sl.length ≤ 20 := by have := congrArg List.length hd.out; rw [List.length_append] at this; omega
    by_cases h9 : 9 < m
    · have t0 : decide (9 < m) = true := by simp [h9]
      have t0' : decide ((9 : Int) < m) = true := by simp; omega
      have hrec : Hid (Lib.decDigits m = Lib.decDigits (m / 10) ++ [UInt8.ofNat (48 + m % 10)]) := by show _ = _; rw [dec_rec, if_neg (by omega)]
      have hq : m % 10 < 10 := Nat.mod_lt _ (by decide)
      have hx1 := ten_slice (m % 10) hq ((m : Int) % 10) ((m : Int) % 10 + 1) (by omega) (by omega)
      have hx2 := mk_cat [UInt8.ofNat (48 + m % 10)] sl
      have z1 : ¬ 9223372036854775807 < (mk [UInt8.ofNat (48 + m % 10)]).size + (mk sl).size := by rw [mk_size, mk_size, List.length_singleton]; omega
      generalize UInt8.ofNat (48 + m % 10) = dg at *
      have hrec' : Hid (Lib.decDigits n = Lib.decDigits (m / 10) ++ ([dg] ++ sl)) := by show _ = _; rw [hd.out, hrec.out, List.append_assoc]
      have hS2 : Hid (mk ([dg] ++ sl) = mk ([dg] ++ sl)) := rfl
      generalize hS : mk ([dg] ++ sl) = S2 at hx2
      have hS' := Lib.hid hS
      clear hS hS2
      go_wp2_with fail
      go_roundw
      case rel => exact ⟨m / 10, [dg] ++ sl, by omega, by congr 1, by rw [hS'.out], hrec'.out, hext⟩
      case measure => simp [intOf]; omega
    · have t0 : decide (9 < m) = false := by simp; omega
      have t0' : decide ((9 : Int) < m) = false := by simp; omega
      have hx1 := ten_slice m (by omega) (m : Int) ((m : Int) + 1) rfl rfl
      have hx2 := mk_cat [UInt8.ofNat (48 + m)] sl
      have z1 : ¬ 9223372036854775807 < (mk [UInt8.ofNat (48 + m)]).size + (mk sl).size := by rw [mk_size, mk_size, List.length_singleton]; omega
      have hrec : Hid (Lib.decDigits m = [UInt8.ofNat (48 + m)]) := by show _ = _; rw [dec_rec, if_pos (by omega)]
      have hres : Hid (Lib.decDigits n = [UInt8.ofNat (48 + m)] ++ sl) := by show _ = _; rw [hd.out, hrec.out]
      generalize UInt8.ofNat (48 + m) = dg at *
      go_wp2_with fail
      go_ret
      exact ⟨by rw [hres.out]; rfl, hext⟩


set_option maxRecDepth 40000 in
set_option maxHeartbeats 4000000 in
theorem numA_calls (n : Int) (h0 : -9223372036854775808 ≤ n) (h1 : n ≤ 9223372036854775807) (w : World) : Calls Tryz.prog 53 #[.int .i64 n] w fun e w' => e = .returned (.string (mk (Lib.itoa n))) ∧ Ext NoB w w' := by
  by_cases hn : n < 0
  · obtain ⟨u, rfl⟩ : ∃ u : Nat, n = -(u : Int) := ⟨n.natAbs, by omega⟩
    have hu1 : 1 ≤ u := by omega
    have hu : u < 18446744073709551616 := by omega
    have t0 : decide (-(u : Int) < 0) = true := by simp; omega
    have t0' : decide (0 < u) = true := by simp; omega
    have hw3 : IntKind.u64.wrap (wrap64 (u : Int)) = (u : Int) := by rw [IntKind.wrap_u64]; unfold wrap64; omega
    have hd := Lib.hid (digitsU_calls u hu w)
    have hl := dec_le20 u hu
    have hc := mk_cat [45] (Lib.decDigits u)
    have hc : (⟨#[45]⟩ : ByteArray) ++ mk (Lib.decDigits u) = mk (45 :: Lib.decDigits u) := hc
    have hres : Hid (Lib.itoa (-(u : Int)) = 45 :: Lib.decDigits u) := by show _ = _; rw [Lib.itoa_neg u hu1]
    have z1 : ¬ 9223372036854775807 < 1 + (mk (Lib.decDigits u)).size := by rw [mk_size]; omega
    go_enter Tryz.func53, Tryz.ntmps53
    go_wp2_with fail
    with_reducible refine hd.out.mono ?_
    rintro e w' ⟨rfl, hx⟩
    generalize hS : mk (45 :: Lib.decDigits u) = S2 at *
    replace hS := Lib.hid hS
    go_wp2_with fail
    go_ret
    exact ⟨by rw [hres.out, hS.out]; rfl, hx⟩
  · obtain ⟨u, rfl⟩ : ∃ u : Nat, n = u := ⟨n.toNat, by omega⟩
    rw [Lib.itoa_nonneg]
    have t0 : decide ((u : Int) < 0) = false := by simp
    go_enter Tryz.func53, Tryz.ntmps53
    go_wp2_with fail
    refine (digitsU_calls u (by omega) w).mono ?_
    rintro e w' ⟨rfl, hx⟩
    go_wp2_with fail
    go_ret
    exact ⟨rfl, hx⟩
theorem Num_calls (n : Int) (h0 : -9223372036854775808 ≤ n) (h1 : n ≤ 9223372036854775807) (w : World) : Calls Tryz.prog 35 #[.int .i64 n] w fun e w' => e = .returned (.string (mk (Lib.itoa n))) ∧ Ext NoB w w' := by
  have hd := Lib.hid (numA_calls n h0 h1 w)
  go_enter Tryz.func35, Tryz.ntmps35
  go_wp2_with fail
  refine hd.out.mono ?_
  rintro e w' ⟨rfl, hx⟩
  go_wp2_with fail
  go_ret
  exact ⟨rfl, hx⟩
theorem digitsN_calls (n : Int) (h : 0 ≤ n ∧ n < 18446744073709551616) (w : World) : Calls Tryz.prog 36 #[.int .u64 n] w fun e w' => e = .returned (.string (mk (Lib.decDigits n.toNat))) ∧ Ext NoB w w' := by
  obtain ⟨u, rfl⟩ : ∃ u : Nat, n = u := ⟨n.toNat, by omega⟩
  exact digitsU_calls u (by omega) w

/-! ### Line -/
def argR (c : Cm) (f : UInt8) : List (List UInt8) := if f = 108 then c.preds.map Lib.itoa else [toldC c (signOf f)]
def spaced (l : List (List UInt8)) : List UInt8 := l.flatMap (fun w => 32 :: w)
/-- The document's line. -/
def lineR (c : Cm) : List UInt8 :=
  if c.k < 1 ∨ 14 < c.k ∨ 20 < c.preds.length then []
  else if 98 ∈ cmForm c.k.toNat ∧ okB c.body = false then []
  else wordOf c.k ++ spaced ((cmForm c.k.toNat).flatMap (argR c))
theorem join_spaced (x : List UInt8) (r : List (List UInt8)) : Lib.join (x :: r) [32] = x ++ spaced r := by
  rw [Lib.join_cons]
  congr 1
theorem word_ne (k : Int) (h1 : 1 ≤ k) (h14 : k ≤ 14) : wordOf k ≠ [] := by
  have : k = 1 ∨ k = 2 ∨ k = 3 ∨ k = 4 ∨ k = 5 ∨ k = 6 ∨ k = 7 ∨ k = 8 ∨ k = 9 ∨ k = 10 ∨ k = 11 ∨ k = 12 ∨ k = 13 ∨ k = 14 := by omega
  rcases this with rfl | rfl | rfl | rfl | rfl | rfl | rfl | rfl | rfl | rfl | rfl | rfl | rfl | rfl <;> decide
/-- A command that may be has one line. -/
theorem lineR_eq (c : Cm) (h : cmdV (lineV c) = (c, 0)) : lineR c = lineV c ∧ lineR c ≠ [] := by
  obtain ⟨_, ⟨h1, h14⟩, hok, hf, _⟩ := cmd_told h
  have e : lineR c = lineV c := by
    unfold lineR lineV
    rw [if_neg (by omega), if_neg (by rw [hok]; simp), join_spaced]
    congr 2
    unfold argsC
    congr 1
    funext f
    unfold argR argC
    rw [List.take_of_length_le (by omega)]
  refine ⟨e, ?_⟩
  unfold lineR
  rw [if_neg (by omega), if_neg (by rw [hok]; simp)]
  intro hh
  exact word_ne c.k h1 h14 (List.append_eq_nil_iff.1 hh).1
/-- The document's text. -/
theorem textR_eq (c : Cm) : (if lineR c = [] then none else if cmdV (lineR c) = (c, 0) then some (lineR c) else none) = if cmdV (lineV c) = (c, 0) then some (lineV c) else none := by
  by_cases h : cmdV (lineV c) = (c, 0)
  · obtain ⟨e1, e2⟩ := lineR_eq c h
    rw [if_pos h, if_neg e2, e1, if_pos h]
  · rw [if_neg h]
    split
    · rfl
    · split
      · rename_i h2
        exact absurd (by rw [(cmd_told h2).1]; exact h2) h
      · rfl

theorem spaced_app (a b : List (List UInt8)) : spaced (a ++ b) = spaced a ++ spaced b := by unfold spaced; rw [List.flatMap_append]
theorem spaced_one (x : List UInt8) : spaced [x] = 32 :: x := by simp [spaced]
theorem itoa_le20 (n : Int) (h : -9223372036854775808 ≤ n ∧ n ≤ 9223372036854775807) : (Lib.itoa n).length ≤ 21 := Lib.itoa_length_le n h.1 h.2

theorem form7 (k : Nat) : ∀ f ∈ cmForm k, f = 116 ∨ f = 112 ∨ f = 98 ∨ f = 105 ∨ f = 110 ∨ f = 109 ∨ f = 108 := by
  unfold cmForm; split <;> decide
set_option maxRecDepth 40000 in
set_option maxHeartbeats 32000000 in
theorem lineR_calls (c : Cm) (hR : CmR c) (Ab Ap : Option Addr) (cb bb ob cp bp op : Nat) (w : World) (hb : SlR w 3 opB Ab cb bb ob c.body) (hp : SlR w 1 intE Ap cp bp op c.preds) :
    Calls Tryz.prog 23 #[cmVal c (.slice Ab c.body.length cb) (.slice Ap c.preds.length cp)] w fun e w' => e = .returned (.string (mk (lineR c))) ∧ Ext NoB w w' := by
  have hx0 : Ext NoB w (w.alloc (.cells #[.int .i64 c.k, .int .i64 c.t, .int .i64 c.p, .int .i64 c.i, .int .u64 c.n, .int .u64 c.m, .slice Ab c.body.length cb, .slice Ap c.preds.length cp] 26)) := (Ext.refl NoB w).alloc _
  have hb0 := alloc_at w (.cells #[.int .i64 c.k, .int .i64 c.t, .int .i64 c.p, .int .i64 c.i, .int .u64 c.n, .int .u64 c.m, .slice Ab c.body.length cb, .slice Ap c.preds.length cp] 26)
  have hlt0 := lt_of_block hb0
  unfold cmVal
  go_enter Tryz.func23, Tryz.ntmps23
  go_wp2_with fail
  generalize w.alloc (.cells #[.int .i64 c.k, .int .i64 c.t, .int .i64 c.p, .int .i64 c.i, .int .u64 c.n, .int .u64 c.m, .slice Ab c.body.length cb, .slice Ap c.preds.length cp] 26) = w0 at *
  obtain ⟨bx, hbx⟩ : ∃ bx, w.heap.size = bx := ⟨_, rfl⟩
  rw [hbx] at hb0 hlt0 ⊢
  refine (rows_calls w0).mono ?_
  rintro e w1 ⟨bn, bf, rfl, hN, hF, hx1⟩
  have hb1 := hx1.keep hb0 nb
  have hx01 := hx0.trans hx1 (fun _ _ e => e)
  have l0 : w1.cell? ⟨bx, 0, none⟩ = some (.int .i64 c.k) := cell_of_row w1 bx 0 _ _ (0, 0) hb1
  have l7 : w1.cell? ⟨bx, 7, none⟩ = some (.slice Ap c.preds.length cp) := cell_of_row w1 bx 7 _ _ (0, 0) hb1
  have hpm := hp.max
  have hpl := hp.le
  unfold maxLen at hpm
  by_cases h1 : c.k < 1
  · have hv : Hid (lineR c = []) := by show _ = _; unfold lineR; rw [if_pos (.inl h1)]
    have t1 : decide (c.k < 1) = true := by simp [h1]
    go_wp2_with fail
    go_ret
    exact ⟨by rw [hv.out]; rfl, hx01⟩
  by_cases h14 : 14 < c.k
  · have hv : Hid (lineR c = []) := by show _ = _; unfold lineR; rw [if_pos (.inr (.inl h14))]
    have t1 : decide (c.k < 1) = false := by simp; omega
    have t2 : decide (14 < c.k) = true := by simp [h14]
    go_wp2_with fail
    go_ret
    exact ⟨by rw [hv.out]; rfl, hx01⟩
  have t1 : decide (c.k < 1) = false := by simp; omega
  have t2 : decide (14 < c.k) = false := by simp; omega
  by_cases h20 : 20 < c.preds.length
  · have hv : Hid (lineR c = []) := by show _ = _; unfold lineR; rw [if_pos (.inr (.inr h20))]
    have t3 : decide (20 < c.preds.length) = true := by simp [h20]
    have t3' : decide ((20 : Int) < (c.preds.length : Int)) = true := by simp; omega
    go_wp2_with fail
    go_ret
    exact ⟨by rw [hv.out]; rfl, hx01⟩
  have t3 : decide (20 < c.preds.length) = false := by simp; omega
  have t3' : decide ((20 : Int) < (c.preds.length : Int)) = false := by simp; omega
  have hv : Hid (lineR c = if 98 ∈ cmForm c.k.toNat ∧ okB c.body = false then [] else wordOf c.k ++ spaced ((cmForm c.k.toNat).flatMap (argR c))) := by show _ = _; unfold lineR; rw [if_neg (by omega)]
  obtain ⟨k, hkk⟩ : ∃ k : Nat, c.k = (k : Int) + 1 := ⟨(c.k - 1).toNat, by omega⟩
  have hk14 : k < 14 := by omega
  have hkt : c.k.toNat = k + 1 := by omega
  rw [hkt] at hv
  have hwrap : IntKind.i64.wrap (c.k - 1) = (k : Int) := by rw [IntKind.wrap_i64]; omega
  have hki : (0 : Int) ≤ (k : Int) := by omega
  have hki14 : (k : Int) < 14 := by omega
  have cn : w1.cell? ⟨bn, k, none⟩ = some (.string (mk (wordOf c.k))) := by
    have hiN : k < cmNames.length := hk14
    have := str_cells hN k (mk cmNames[k]) (by rw [List.getElem?_map, List.getElem?_eq_getElem hiN]; rfl)
    rw [Nat.zero_add] at this
    rw [this]
    unfold wordOf
    rw [show (c.k - 1).toNat = k by omega, List.getElem?_eq_getElem hiN]; rfl
  have cf : w1.cell? ⟨bf, k, none⟩ = some (.string (mk (cmForm (k + 1)))) := by
    have := str_cells hF k (mk (cmForm (k + 1))) (by rw [List.getElem?_map, forms_get k hk14]; rfl)
    rwa [Nat.zero_add] at this
  have hFs : ∀ f ∈ cmForm (k + 1), f = 116 ∨ f = 112 ∨ f = 98 ∨ f = 105 ∨ f = 110 ∨ f = 109 ∨ f = 108 := form7 (k + 1)
  have hFl := form_le (k + 1)
  have hSs : (mk (cmForm (k + 1))).size = (cmForm (k + 1)).length := mk_size _
  have hSe : ∀ (j : Nat) (h : j < (mk (cmForm (k + 1))).size) (h2 : j < (cmForm (k + 1)).length), (mk (cmForm (k + 1)))[j]'h = (cmForm (k + 1))[j]'h2 := fun j h h2 => rfl
  have hwl := wordOf_le c.k
  generalize cmForm (k + 1) = F at *
  generalize hWd : wordOf c.k = Wd at *
  replace hWd := Lib.hid hWd
  replace hFs := Lib.hid hFs
  replace hSe := Lib.hid hSe
  have hwkb := Lib.hid hkk
  clear hkk hkt
  generalize mk F = S at *
  have hbb : Hid (0 < c.body.length → bb < w.heap.size) := fun h0 => World.block_lt_of_cell? w _ (hb.cell opB_len 0 c.body[0] (List.getElem?_eq_getElem h0) 0 _ rfl)
  have hbw1 := Lib.hid (hb.keep hx01 nb1)
  have hpw1 := Lib.hid (hp.keep hx01 nb1)
  clear hb hp
  go_wp2_with fail
  go_loopw [5, 7] (fun sv iv wr => ∃ (i : Nat) (sl : List UInt8), i ≤ F.length ∧ iv = .int .i64 (i : Int) ∧ sv = .string (mk sl) ∧ Hid (sl = Wd ++ spaced ((F.take i).flatMap (argR c))) ∧ sl.length ≤ 8 + i * 900 ∧ Hid (∀ f ∈ F.take i, f = 98 → okB c.body = true) ∧ Ext NoB w1 wr) (fun _ iv _ => F.length - (intOf iv).toNat)
  case atStart => exact ⟨0, Wd, Nat.zero_le _, rfl, rfl, by show _ = _; simp [spaced], by omega, fun f hf => by simp at hf, Ext.refl _ _⟩
  case round =>
    obtain ⟨i, sl, hi, rfl, rfl, hsl, hsll, hnob, hext⟩ := hrel
    have hbr := hext.keep hb1 nb
    by_cases hlt : i < F.length
    · have t4 : decide (i < F.length) = true := by simp [hlt]
      have t4' : decide ((i : Int) < (F.length : Int)) = true := by simp [hlt]
      have hiS : i < S.size := by rw [hSs]; exact hlt
      have hsf := hSe.out i hiS hlt
      have hfs := hFs.out _ (List.getElem_mem hlt)
      have hmem : F[i] ∈ F := List.getElem_mem hlt
      have htk : Hid ((F.take (i + 1)).flatMap (argR c) = (F.take i).flatMap (argR c) ++ argR c F[i]) := by
        show _ = _
        rw [List.take_succ_eq_append_getElem hlt, List.flatMap_append]
        simp
      have hnb : Hid (F[i] ≠ 98 → ∀ f ∈ F.take (i + 1), f = 98 → okB c.body = true) := by
        intro hne f hf h98
        rw [List.take_succ_eq_append_getElem hlt] at hf
        rcases List.mem_append.1 hf with hf | hf
        · exact hnob.out f hf h98
        · rw [List.mem_singleton] at hf; rw [hf] at h98; exact absurd h98 hne
      have hnb2 : Hid (okB c.body = true → ∀ f ∈ F.take (i + 1), f = 98 → okB c.body = true) := fun h _ _ _ => h
      generalize F[i] = f at *
      rcases hfs with rfl | rfl | rfl | rfl | rfl | rfl | rfl
      · have hix : (((S[i]'hiS).toNat : Nat) : Int) = 116 := by rw [hsf]; rfl
        have hac : Hid (argR c 116 = [Lib.itoa c.t]) := by show _ = _; unfold argR; rw [if_neg (by decide)]; rfl
        have lx : wr.cell? ⟨bx, 1, none⟩ = some (.int .i64 c.t) := cell_of_row wr bx 1 _ _ (0, 0) hbr
        have hxl : (Lib.itoa c.t).length ≤ 21 := itoa_le20 _ hR.t
        have hcall := Lib.hid (Num_calls c.t hR.t.1 hR.t.2 wr)
        have c1 : mk sl ++ (⟨#[32]⟩ : ByteArray) = mk (sl ++ [32]) := mk_cat sl [32]
        have c2 := mk_cat (sl ++ [32]) (Lib.itoa c.t)
        have z1 : ¬ 9223372036854775807 < (mk sl).size + 1 := by rw [mk_size]; omega
        have z2 : ¬ 9223372036854775807 < (mk (sl ++ [32])).size + (mk (Lib.itoa c.t)).size := by rw [mk_size, mk_size, List.length_append, List.length_singleton]; omega
        have hnx : Hid (sl ++ [32] ++ Lib.itoa c.t = Wd ++ spaced ((F.take (i + 1)).flatMap (argR c))) := by show _ = _; rw [htk.out, spaced_app, hac.out, spaced_one, hsl.out]; simp
        have hnl : (sl ++ [32] ++ Lib.itoa c.t).length ≤ 8 + (i + 1) * 900 := by rw [List.length_append, List.length_append, List.length_singleton]; omega
        generalize hS2 : mk (sl ++ [32] ++ Lib.itoa c.t) = S2 at *
        replace hS2 := Lib.hid hS2
        generalize mk (sl ++ [32]) = S1 at *
        generalize mk sl = S0 at *
        generalize mk (Lib.itoa c.t) = SX at *
        go_wp2_with fail
        refine hcall.out.mono ?_
        rintro e w3 ⟨rfl, hx3⟩
        go_wp2_with fail
        go_roundw
        case rel => exact ⟨i + 1, _, by omega, by go_num, by rw [hS2.out], hnx.out, hnl, hnb.out (by decide), hext.trans hx3 (fun _ _ e => e)⟩
        case measure => simp [intOf]; omega
      · have hix : (((S[i]'hiS).toNat : Nat) : Int) = 112 := by rw [hsf]; rfl
        have hac : Hid (argR c 112 = [Lib.itoa c.p]) := by show _ = _; unfold argR; rw [if_neg (by decide)]; rfl
        have lx : wr.cell? ⟨bx, 2, none⟩ = some (.int .i64 c.p) := cell_of_row wr bx 2 _ _ (0, 0) hbr
        have hxl : (Lib.itoa c.p).length ≤ 21 := itoa_le20 _ hR.p
        have hcall := Lib.hid (Num_calls c.p hR.p.1 hR.p.2 wr)
        have c1 : mk sl ++ (⟨#[32]⟩ : ByteArray) = mk (sl ++ [32]) := mk_cat sl [32]
        have c2 := mk_cat (sl ++ [32]) (Lib.itoa c.p)
        have z1 : ¬ 9223372036854775807 < (mk sl).size + 1 := by rw [mk_size]; omega
        have z2 : ¬ 9223372036854775807 < (mk (sl ++ [32])).size + (mk (Lib.itoa c.p)).size := by rw [mk_size, mk_size, List.length_append, List.length_singleton]; omega
        have hnx : Hid (sl ++ [32] ++ Lib.itoa c.p = Wd ++ spaced ((F.take (i + 1)).flatMap (argR c))) := by show _ = _; rw [htk.out, spaced_app, hac.out, spaced_one, hsl.out]; simp
        have hnl : (sl ++ [32] ++ Lib.itoa c.p).length ≤ 8 + (i + 1) * 900 := by rw [List.length_append, List.length_append, List.length_singleton]; omega
        generalize hS2 : mk (sl ++ [32] ++ Lib.itoa c.p) = S2 at *
        replace hS2 := Lib.hid hS2
        generalize mk (sl ++ [32]) = S1 at *
        generalize mk sl = S0 at *
        generalize mk (Lib.itoa c.p) = SX at *
        go_wp2_with fail
        refine hcall.out.mono ?_
        rintro e w3 ⟨rfl, hx3⟩
        go_wp2_with fail
        go_roundw
        case rel => exact ⟨i + 1, _, by omega, by go_num, by rw [hS2.out], hnx.out, hnl, hnb.out (by decide), hext.trans hx3 (fun _ _ e => e)⟩
        case measure => simp [intOf]; omega
      · have hix : (((S[i]'hiS).toNat : Nat) : Int) = 98 := by rw [hsf]; rfl
        have hac : Hid (argR c 98 = [bodyC c.body]) := by show _ = _; unfold argR; rw [if_neg (by decide)]; rfl
        have lx : wr.cell? ⟨bx, 6, none⟩ = some (.slice Ab c.body.length cb) := cell_of_row wr bx 6 _ _ (0, 0) hbr
        have hbw := hbw1.out.keep hext nb1
        by_cases hok : okB c.body = true
        · have htl := textL_le c.body hok
          have hcall := textR_calls Ab cb bb ob c.body wr hbw
          rw [hok] at hcall
          simp only [if_true] at hcall
          have hbc : bodyC c.body = (textL c.body).map (fun x => if x = 32 then 44 else x) := by unfold bodyC uncomma; rw [if_pos hok]
          have hwc := fun w' => with_calls (mk (textL c.body)) 32 44 (by rw [mk_size]; omega) w'
          rw [show (mk (textL c.body)).data.toList = textL c.body by simp [mk], ← hbc] at hwc
          replace hwc := Lib.hid hwc
          replace hcall := Lib.hid hcall
          have hbl := bodyC_le c.body
          have c1 : mk sl ++ (⟨#[32]⟩ : ByteArray) = mk (sl ++ [32]) := mk_cat sl [32]
          have c2 := mk_cat (sl ++ [32]) (bodyC c.body)
          have z1 : ¬ 9223372036854775807 < (mk sl).size + 1 := by rw [mk_size]; omega
          have z2 : ¬ 9223372036854775807 < (mk (sl ++ [32])).size + (mk (bodyC c.body)).size := by rw [mk_size, mk_size, List.length_append, List.length_singleton]; omega
          have hnx : Hid (sl ++ [32] ++ bodyC c.body = Wd ++ spaced ((F.take (i + 1)).flatMap (argR c))) := by show _ = _; rw [htk.out, spaced_app, hac.out, spaced_one, hsl.out]; simp
          have hnl : (sl ++ [32] ++ bodyC c.body).length ≤ 8 + (i + 1) * 900 := by rw [List.length_append, List.length_append, List.length_singleton]; omega
          have hokH := Lib.hid hok
          clear hbc hok
          generalize hS2 : mk (sl ++ [32] ++ bodyC c.body) = S2 at *
          replace hS2 := Lib.hid hS2
          generalize mk (sl ++ [32]) = S1 at *
          generalize mk sl = S0 at *
          generalize mk (bodyC c.body) = SX at *
          generalize mk (textL c.body) = ST at *
          go_wp2_with fail
          refine hcall.out.mono ?_
          rintro e w3 ⟨rfl, hx3⟩
          go_wp2_with fail
          refine (hwc.out w3).mono ?_
          rintro e w4 ⟨rfl, hx4⟩
          go_wp2_with fail
          go_roundw
          case rel => exact ⟨i + 1, _, by omega, by go_num, by rw [hS2.out], hnx.out, hnl, hnb2.out hokH.out, (hext.trans hx3 (fun _ _ e => e)).trans hx4 (fun _ _ e => e)⟩
          case measure => simp [intOf]; omega
        · have hok' : okB c.body = false := by simpa using hok
          have hcall := textR_calls Ab cb bb ob c.body wr hbw
          rw [hok'] at hcall
          simp only [Bool.false_eq_true, if_false] at hcall
          replace hcall := Lib.hid hcall
          have hv2 : Hid (lineR c = []) := by show _ = _; rw [hv.out, if_pos ⟨hmem, hok'⟩]
          clear hok hok'
          generalize mk sl = S0 at *
          go_wp2_with fail
          refine hcall.out.mono ?_
          rintro e w3 ⟨rfl, hx3⟩
          go_wp2_with fail
          go_ret
          exact ⟨by rw [hv2.out]; rfl, (hx01.trans hext (fun _ _ e => e)).trans hx3 (fun _ _ e => e)⟩
      · have hix : (((S[i]'hiS).toNat : Nat) : Int) = 105 := by rw [hsf]; rfl
        have hac : Hid (argR c 105 = [Lib.itoa c.i]) := by show _ = _; unfold argR; rw [if_neg (by decide)]; rfl
        have lx : wr.cell? ⟨bx, 3, none⟩ = some (.int .i64 c.i) := cell_of_row wr bx 3 _ _ (0, 0) hbr
        have hxl : (Lib.itoa c.i).length ≤ 21 := itoa_le20 _ hR.i
        have hcall := Lib.hid (Num_calls c.i hR.i.1 hR.i.2 wr)
        have c1 : mk sl ++ (⟨#[32]⟩ : ByteArray) = mk (sl ++ [32]) := mk_cat sl [32]
        have c2 := mk_cat (sl ++ [32]) (Lib.itoa c.i)
        have z1 : ¬ 9223372036854775807 < (mk sl).size + 1 := by rw [mk_size]; omega
        have z2 : ¬ 9223372036854775807 < (mk (sl ++ [32])).size + (mk (Lib.itoa c.i)).size := by rw [mk_size, mk_size, List.length_append, List.length_singleton]; omega
        have hnx : Hid (sl ++ [32] ++ Lib.itoa c.i = Wd ++ spaced ((F.take (i + 1)).flatMap (argR c))) := by show _ = _; rw [htk.out, spaced_app, hac.out, spaced_one, hsl.out]; simp
        have hnl : (sl ++ [32] ++ Lib.itoa c.i).length ≤ 8 + (i + 1) * 900 := by rw [List.length_append, List.length_append, List.length_singleton]; omega
        generalize hS2 : mk (sl ++ [32] ++ Lib.itoa c.i) = S2 at *
        replace hS2 := Lib.hid hS2
        generalize mk (sl ++ [32]) = S1 at *
        generalize mk sl = S0 at *
        generalize mk (Lib.itoa c.i) = SX at *
        go_wp2_with fail
        refine hcall.out.mono ?_
        rintro e w3 ⟨rfl, hx3⟩
        go_wp2_with fail
        go_roundw
        case rel => exact ⟨i + 1, _, by omega, by go_num, by rw [hS2.out], hnx.out, hnl, hnb.out (by decide), hext.trans hx3 (fun _ _ e => e)⟩
        case measure => simp [intOf]; omega
      · have hix : (((S[i]'hiS).toNat : Nat) : Int) = 110 := by rw [hsf]; rfl
        have hac : Hid (argR c 110 = [Lib.decDigits c.n.toNat]) := by show _ = _; unfold argR; rw [if_neg (by decide)]; rfl
        have lx : wr.cell? ⟨bx, 4, none⟩ = some (.int .u64 c.n) := cell_of_row wr bx 4 _ _ (0, 0) hbr
        have hxl : (Lib.decDigits c.n.toNat).length ≤ 21 := Nat.le_trans (dec_le20 _ (by have := hR.n; omega)) (by decide)
        have hcall := Lib.hid (digitsN_calls c.n hR.n wr)
        have c1 : mk sl ++ (⟨#[32]⟩ : ByteArray) = mk (sl ++ [32]) := mk_cat sl [32]
        have c2 := mk_cat (sl ++ [32]) (Lib.decDigits c.n.toNat)
        have z1 : ¬ 9223372036854775807 < (mk sl).size + 1 := by rw [mk_size]; omega
        have z2 : ¬ 9223372036854775807 < (mk (sl ++ [32])).size + (mk (Lib.decDigits c.n.toNat)).size := by rw [mk_size, mk_size, List.length_append, List.length_singleton]; omega
        have hnx : Hid (sl ++ [32] ++ Lib.decDigits c.n.toNat = Wd ++ spaced ((F.take (i + 1)).flatMap (argR c))) := by show _ = _; rw [htk.out, spaced_app, hac.out, spaced_one, hsl.out]; simp
        have hnl : (sl ++ [32] ++ Lib.decDigits c.n.toNat).length ≤ 8 + (i + 1) * 900 := by rw [List.length_append, List.length_append, List.length_singleton]; omega
        generalize hS2 : mk (sl ++ [32] ++ Lib.decDigits c.n.toNat) = S2 at *
        replace hS2 := Lib.hid hS2
        generalize mk (sl ++ [32]) = S1 at *
        generalize mk sl = S0 at *
        generalize mk (Lib.decDigits c.n.toNat) = SX at *
        go_wp2_with fail
        refine hcall.out.mono ?_
        rintro e w3 ⟨rfl, hx3⟩
        go_wp2_with fail
        go_roundw
        case rel => exact ⟨i + 1, _, by omega, by go_num, by rw [hS2.out], hnx.out, hnl, hnb.out (by decide), hext.trans hx3 (fun _ _ e => e)⟩
        case measure => simp [intOf]; omega
      · have hix : (((S[i]'hiS).toNat : Nat) : Int) = 109 := by rw [hsf]; rfl
        have hac : Hid (argR c 109 = [Lib.decDigits c.m.toNat]) := by show _ = _; unfold argR; rw [if_neg (by decide)]; rfl
        have lx : wr.cell? ⟨bx, 5, none⟩ = some (.int .u64 c.m) := cell_of_row wr bx 5 _ _ (0, 0) hbr
        have hxl : (Lib.decDigits c.m.toNat).length ≤ 21 := Nat.le_trans (dec_le20 _ (by have := hR.m; omega)) (by decide)
        have hcall := Lib.hid (digitsN_calls c.m hR.m wr)
        have c1 : mk sl ++ (⟨#[32]⟩ : ByteArray) = mk (sl ++ [32]) := mk_cat sl [32]
        have c2 := mk_cat (sl ++ [32]) (Lib.decDigits c.m.toNat)
        have z1 : ¬ 9223372036854775807 < (mk sl).size + 1 := by rw [mk_size]; omega
        have z2 : ¬ 9223372036854775807 < (mk (sl ++ [32])).size + (mk (Lib.decDigits c.m.toNat)).size := by rw [mk_size, mk_size, List.length_append, List.length_singleton]; omega
        have hnx : Hid (sl ++ [32] ++ Lib.decDigits c.m.toNat = Wd ++ spaced ((F.take (i + 1)).flatMap (argR c))) := by show _ = _; rw [htk.out, spaced_app, hac.out, spaced_one, hsl.out]; simp
        have hnl : (sl ++ [32] ++ Lib.decDigits c.m.toNat).length ≤ 8 + (i + 1) * 900 := by rw [List.length_append, List.length_append, List.length_singleton]; omega
        generalize hS2 : mk (sl ++ [32] ++ Lib.decDigits c.m.toNat) = S2 at *
        replace hS2 := Lib.hid hS2
        generalize mk (sl ++ [32]) = S1 at *
        generalize mk sl = S0 at *
        generalize mk (Lib.decDigits c.m.toNat) = SX at *
        go_wp2_with fail
        refine hcall.out.mono ?_
        rintro e w3 ⟨rfl, hx3⟩
        go_wp2_with fail
        go_roundw
        case rel => exact ⟨i + 1, _, by omega, by go_num, by rw [hS2.out], hnx.out, hnl, hnb.out (by decide), hext.trans hx3 (fun _ _ e => e)⟩
        case measure => simp [intOf]; omega
      · have hix : (((S[i]'hiS).toNat : Nat) : Int) = 108 := by rw [hsf]; rfl
        have hac : Hid (argR c 108 = c.preds.map Lib.itoa) := by show _ = _; unfold argR; rw [if_pos rfl]
        have l7r : wr.cell? ⟨bx, 7, none⟩ = some (.slice Ap c.preds.length cp) := cell_of_row wr bx 7 _ _ (0, 0) hbr
        have hextH := Lib.hid hext
        have hslH := Lib.hid hsl.out
        clear hext
        go_wp2_with fail
        go_loopw [5, 10] (fun sv jv wq => ∃ (j : Nat) (s2 : List UInt8), j ≤ c.preds.length ∧ jv = .int .i64 (j : Int) ∧ sv = .string (mk s2) ∧ Hid (s2 = sl ++ spaced ((c.preds.take j).map Lib.itoa)) ∧ s2.length ≤ sl.length + j * 22 ∧ Ext NoB w1 wq) (fun _ jv _ => c.preds.length - (intOf jv).toNat)
        case atStart => exact ⟨0, sl, Nat.zero_le _, rfl, rfl, by show _ = _; simp [spaced], by omega, hextH.out⟩
        case round =>
          obtain ⟨j, s2, hj, rfl, rfl, hs2, hs2l, hext2⟩ := hrel
          have hbr2 := hext2.keep hb1 nb
          have l7q := cell_of_row _ bx 7 _ _ (0, 0) hbr2
          have l7q : World.cell? _ ⟨bx, 7, none⟩ = some (.slice Ap c.preds.length cp) := l7q
          by_cases hjl : j < c.preds.length
          · have t4 : decide (j < c.preds.length) = true := by simp [hjl]
            have t4' : decide ((j : Int) < (c.preds.length : Int)) = true := by simp [hjl]
            have hpq := hpw1.out.keep hext2 nb1
            obtain rfl := hpq.addr (by omega)
            have hcp := hpq.intCell j hjl
            have hbnd := hR.preds _ (List.getElem_mem hjl)
            have htj : Hid ((c.preds.take (j + 1)).map Lib.itoa = (c.preds.take j).map Lib.itoa ++ [Lib.itoa c.preds[j]]) := by show _ = _; rw [List.take_succ_eq_append_getElem hjl, List.map_append]; rfl
            generalize c.preds[j] = px at *
            have hxl := itoa_le20 px hbnd
            have hcall := Lib.hid (fun w' => Num_calls px hbnd.1 hbnd.2 w')
            have c1 : mk s2 ++ (⟨#[32]⟩ : ByteArray) = mk (s2 ++ [32]) := mk_cat s2 [32]
            have c2 := mk_cat (s2 ++ [32]) (Lib.itoa px)
            have z1 : ¬ 9223372036854775807 < (mk s2).size + 1 := by rw [mk_size]; omega
            have z2 : ¬ 9223372036854775807 < (mk (s2 ++ [32])).size + (mk (Lib.itoa px)).size := by rw [mk_size, mk_size, List.length_append, List.length_singleton]; omega
            have hnx : Hid (s2 ++ [32] ++ Lib.itoa px = sl ++ spaced ((c.preds.take (j + 1)).map Lib.itoa)) := by show _ = _; rw [htj.out, spaced_app, spaced_one, hs2.out]; simp
            have hnl : (s2 ++ [32] ++ Lib.itoa px).length ≤ sl.length + (j + 1) * 22 := by rw [List.length_append, List.length_append, List.length_singleton]; omega
            generalize hS2 : mk (s2 ++ [32] ++ Lib.itoa px) = S2 at *
            replace hS2 := Lib.hid hS2
            generalize mk (s2 ++ [32]) = S1 at *
            generalize mk s2 = S0 at *
            generalize mk (Lib.itoa px) = SX at *
            go_wp2_with fail
            refine (hcall.out _).mono ?_
            rintro e w3 ⟨rfl, hx3⟩
            go_wp2_with fail
            go_roundw
            case rel => exact ⟨j + 1, _, by omega, by go_num, by rw [hS2.out], hnx.out, hnl, hext2.trans hx3 (fun _ _ e => e)⟩
            case measure => simp [intOf]; omega
          · have t4 : decide (j < c.preds.length) = false := by simp [hjl]
            have t4' : decide ((j : Int) < (c.preds.length : Int)) = false := by simp [hjl]
            obtain rfl : j = c.preds.length := by omega
            have hnx : Hid (s2 = Wd ++ spaced ((F.take (i + 1)).flatMap (argR c))) := by
              show _ = _
              rw [hs2.out, htk.out, spaced_app, hac.out, hslH.out, List.take_length, List.append_assoc]
            have hnl : s2.length ≤ 8 + (i + 1) * 900 := by omega
            generalize hS0 : mk s2 = S0 at *
            replace hS0 := Lib.hid hS0
            go_wp2_with fail
            go_roundw
            case rel => exact ⟨i + 1, s2, by omega, by go_num, by rw [hS0.out], hnx.out, hnl, hnb.out (by decide), hext2⟩
            case measure => simp [intOf]; omega
    · have t4 : decide (i < F.length) = false := by simp [hlt]
      have t4' : decide ((i : Int) < (F.length : Int)) = false := by simp [hlt]
      obtain rfl : i = F.length := by omega
      have hfin : Hid (mk (lineR c) = mk sl) := by
        show _ = _
        have h1 := hsl.out
        have h2 := hnob.out
        rw [List.take_length] at h1 h2
        rw [hv.out, if_neg (fun h => by have := h2 98 h.1 rfl; rw [this] at h; cases h.2), h1]
      generalize mk sl = S0 at *
      go_wp2_with fail
      go_ret
      exact ⟨by rw [hfin.out]; rfl, hx01.trans hext (fun _ _ e => e)⟩
end Go.Proofs.YtgiimmiandhkhaaGreatDoor
