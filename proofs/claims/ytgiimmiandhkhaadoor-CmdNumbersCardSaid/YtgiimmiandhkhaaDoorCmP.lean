/- CmdNumbers: the walk. -/
import Derived.Test.YtgiimmiandhkhaaDoorProg
import Derived.Test.YtgiimmiandhkhaaDoorCmO
import Derived.Test.YtgiimmiandhkhaaDoorBits
namespace Go.Proofs.YtgiimmiandhkhaaDoor
open Go.RowKit
set_option linter.unusedSimpArgs false
set_option linter.unusedVariables false

theorem msk13 (m : Int) : ∃ M : Nat, M < 8192 ∧ bits .and .i64 m 8191 = (M : Int) := by
  refine ⟨(m % 8192).toNat, by omega, ?_⟩
  rw [i64_mask m 8191 13 8192 (by decide) (by decide) (by decide) (by decide) (by decide)]
  omega

theorem catP (p x : List UInt8) : ∃ P : ByteArray, mk p ++ mk x = P ∧ Hid (P = mk (p ++ x)) ∧ P.size = p.length + x.length := ⟨_, rfl, mk_cat p x, by rw [mk_cat, mk_size, List.length_append]⟩
theorem catQ (P : ByteArray) (p x : List UInt8) (h : Hid (P = mk p)) : ∃ Q : ByteArray, P ++ mk x = Q ∧ Hid (Q = mk (p ++ x)) ∧ Q.size = p.length + x.length := ⟨_, rfl, by have := h.out; show _ = _; rw [this, mk_cat], by rw [h.out, mk_cat, mk_size, List.length_append]⟩

set_option maxRecDepth 40000 in
set_option maxHeartbeats 8000000 in
theorem cnumbers_calls (n m : Int) (hn : 0 ≤ n) (hn1 : n ≤ 18446744073709551615) (w : World) (hG : Gl w) : Calls Tryd.prog 4 #[.int .u64 n, .int .i64 m] w fun e w' => e = .returned (.bool true) ∧ Ext NoB w w' := by
  obtain ⟨n, rfl⟩ : ∃ k : Nat, n = k := ⟨n.toNat, by omega⟩
  obtain ⟨M, hM, hMe⟩ := msk13 m
  obtain ⟨N, hN, hNe⟩ : ∃ N : Nat, N < 10 ^ 18 ∧ ((n : Int) % 1000000000000000000) = (N : Int) := ⟨n % 1000000000000000000, by omega, by omega⟩
  have hpick := cmParse_calls (mk (pickS (Lib.decDigits N)))
  rw [show (mk (pickS (Lib.decDigits N))).data.toList = pickS (Lib.decDigits N) by rfl, pick_ok N hN] at hpick
  dsimp only at hpick
  replace hpick := Lib.hid hpick
  have hcanc := cmParse_calls (mk (cancelS (Lib.decDigits M)))
  rw [show (mk (cancelS (Lib.decDigits M))).data.toList = cancelS (Lib.decDigits M) by rfl, cancel_ok M (by omega)] at hcanc
  dsimp only at hcanc
  replace hcanc := Lib.hid hcanc
  have hbad := Lib.hid (bad_all N M hN (by omega))
  have hlA := dec_le_pow 17 N hN
  have hlB := dec_le_pow 3 M (by omega)
  have hdA := Lib.hid (digitsU_calls N (by omega))
  have hdB := Num_calls (M : Int) (by omega) (by omega)
  rw [Lib.itoa_nonneg] at hdB
  replace hdB := Lib.hid hdB
  go_enter Tryd.func4, Tryd.ntmps4
  go_wp2_with fail
  generalize Lib.decDigits N = a at *
  generalize Lib.decDigits M = b at *
  clear hn hn1 hMe
  refine (hdA.out w).mono ?_
  rintro e w1 ⟨rfl, hx1⟩
  have hsA : (mk a).size ≤ 18 := hlA
  have hsB : (mk b).size ≤ 4 := hlB
  obtain ⟨P1, eP1, hP1, sP1⟩ := catP [112, 105, 99, 107, 32] a
  have eP1 : (⟨#[112, 105, 99, 107, 32]⟩ : ByteArray) ++ mk a = P1 := eP1
  simp at sP1
  obtain ⟨P2, eP2, hP2, sP2⟩ := catQ P1 _ [32] hP1
  have eP2 : P1 ++ (⟨#[32]⟩ : ByteArray) = P2 := eP2
  simp at sP2
  obtain ⟨P3, eP3, hP3, sP3⟩ := catQ P2 _ a hP2
  simp at sP3
  obtain ⟨C1, eC1, hC1, sC1⟩ := catP [99, 97, 110, 99, 101, 108, 32] b
  have eC1 : (⟨#[99, 97, 110, 99, 101, 108, 32]⟩ : ByteArray) ++ mk b = C1 := eC1
  simp at sC1
  have z1 : ¬ 9223372036854775807 < 5 + (mk a).size := by omega
  have z2 : ¬ 9223372036854775807 < P1.size + 1 := by omega
  have z3 : ¬ 9223372036854775807 < P2.size + (mk a).size := by omega
  have z4 : ¬ 9223372036854775807 < 7 + (mk b).size := by omega
  go_wp2_with (first
    | (go_at_call 6; refine (hdB.out _).mono ?_; rintro e w2 ⟨rfl, hx2⟩))
  rw [show P3 = mk (pickS a) from hP3.out]
  refine (hpick.out w2 (hG.keep (hx1.trans hx2 (fun _ _ e => e)))).mono ?_
  rintro e w3 ⟨bv, pv, gb, gp, rfl, hOb, hOp, hgb, hgp, hx3⟩
  obtain ⟨Ab, cb, bb, ob, rfl, hrb0, _⟩ := hOb.read
  obtain ⟨Ap, cp, bp, op, rfl, hrp0, _⟩ := hOp.read
  clear hOb hOp hgb hgp hpick hrb0 hrp0
  have hra := alloc_at w3 (.cells #[.int .i64 6, .int .i64 0, .int .i64 0, .int .i64 0, .int .u64 N, .int .u64 N, .slice Ab 0 cb, .slice Ap 0 cp] 29)
  have hxa : Ext NoB w3 (w3.alloc (.cells #[.int .i64 6, .int .i64 0, .int .i64 0, .int .i64 0, .int .u64 N, .int .u64 N, .slice Ab 0 cb, .slice Ap 0 cp] 29)) := (Ext.refl NoB w3).alloc _
  go_wp2_with fail
  generalize w3.alloc (.cells #[.int .i64 6, .int .i64 0, .int .i64 0, .int .i64 0, .int .u64 N, .int .u64 N, .slice Ab 0 cb, .slice Ap 0 cp] 29) = w4 at *
  generalize w3.heap.size = b1 at *
  rw [show C1 = mk (cancelS b) from hC1.out]
  refine (hcanc.out w4 (hG.keep (((hx1.trans hx2 (fun _ _ e => e)).trans hx3 (fun _ _ e => e)).trans hxa (fun _ _ e => e)))).mono ?_
  rintro e w5 ⟨bv2, pv2, gb2, gp2, rfl, hOb, hOp, hgb, hgp, hx5⟩
  obtain ⟨Ab2, cb2, bb2, ob2, rfl, hrb0, _⟩ := hOb.read
  obtain ⟨Ap2, cp2, bp2, op2, rfl, hrp0, _⟩ := hOp.read
  clear hOb hOp hgb hgp hcanc hrb0 hrp0
  have hrb := alloc_at w5 (.cells #[.int .i64 4, .int .i64 0, .int .i64 0, .int .i64 M, .int .u64 0, .int .u64 0, .slice Ab2 0 cb2, .slice Ap2 0 cp2] 29)
  have hxb : Ext NoB w5 (w5.alloc (.cells #[.int .i64 4, .int .i64 0, .int .i64 0, .int .i64 M, .int .u64 0, .int .u64 0, .slice Ab2 0 cb2, .slice Ap2 0 cp2] 29)) := (Ext.refl NoB w5).alloc _
  have hra5 := hxb.keep (hx5.keep hra nb) nb
  have l4 := cell_of_row _ b1 4 _ _ (0, 0) hra5
  have l5 := cell_of_row _ b1 5 _ _ (0, 0) hra5
  have l3 := cell_of_row _ w5.heap.size 3 _ _ (0, 0) hrb
  have hG6 := hG.keep (((((hx1.trans hx2 (fun _ _ e => e)).trans hx3 (fun _ _ e => e)).trans hxa (fun _ _ e => e)).trans hx5 (fun _ _ e => e)).trans hxb (fun _ _ e => e))
  have hx6 := (((((hx1.trans hx2 (fun _ _ e => e)).trans hx3 (fun _ _ e => e)).trans hxa (fun _ _ e => e)).trans hx5 (fun _ _ e => e)).trans hxb (fun _ _ e => e))
  have eN : ((N : Int) != (N : Int)) = false := by simp
  have eM : ((M : Int) != (M : Int)) = false := by simp
  obtain ⟨Q1, eQ1, hQ1, sQ1⟩ := catP [112, 105, 99, 107, 32, 48] a
  have eQ1 : (⟨#[112, 105, 99, 107, 32, 48]⟩ : ByteArray) ++ mk a = Q1 := eQ1
  simp at sQ1
  obtain ⟨T1, eT1, hT1, sT1⟩ := catQ Q1 _ [32, 49] hQ1
  have eT1 : Q1 ++ (⟨#[32, 49]⟩ : ByteArray) = T1 := eT1
  obtain ⟨Q2, eQ2, hQ2, sQ2⟩ := catP [112, 105, 99, 107, 32, 45] a
  have eQ2 : (⟨#[112, 105, 99, 107, 32, 45]⟩ : ByteArray) ++ mk a = Q2 := eQ2
  simp at sQ2
  obtain ⟨T2, eT2, hT2, sT2⟩ := catQ Q2 _ [32, 49] hQ2
  have eT2 : Q2 ++ (⟨#[32, 49]⟩ : ByteArray) = T2 := eT2
  obtain ⟨Q4, eQ4, hQ4, sQ4⟩ := catP [112, 105, 99, 107, 32, 32] a
  have eQ4 : (⟨#[112, 105, 99, 107, 32, 32]⟩ : ByteArray) ++ mk a = Q4 := eQ4
  simp at sQ4
  obtain ⟨T4, eT4, hT4, sT4⟩ := catQ Q4 _ [32, 49] hQ4
  have eT4 : Q4 ++ (⟨#[32, 49]⟩ : ByteArray) = T4 := eT4
  obtain ⟨T7, eT7, hT7, sT7⟩ := catP [99, 97, 110, 99, 101, 108, 32, 48] b
  have eT7 : (⟨#[99, 97, 110, 99, 101, 108, 32, 48]⟩ : ByteArray) ++ mk b = T7 := eT7
  simp at sT7
  have y1 : ¬ 9223372036854775807 < 6 + (mk a).size := by omega
  have y2 : ¬ 9223372036854775807 < Q1.size + 2 := by omega
  have y3 : ¬ 9223372036854775807 < Q2.size + 2 := by omega
  have y4 : ¬ 9223372036854775807 < Q4.size + 2 := by omega
  have y5 : ¬ 9223372036854775807 < 8 + (mk b).size := by omega
  go_wp2_with fail
  have hsz6 : w5.heap.size + 1 = (w5.alloc (.cells #[.int .i64 4, .int .i64 0, .int .i64 0, .int .i64 M, .int .u64 0, .int .u64 0, .slice Ab2 0 cb2, .slice Ap2 0 cp2] 29)).heap.size := by simp
  generalize w5.alloc (.cells #[.int .i64 4, .int .i64 0, .int .i64 0, .int .i64 M, .int .u64 0, .int .u64 0, .slice Ab2 0 cb2, .slice Ap2 0 cp2] 29) = w6 at *
  have hrow := alloc_at' w6 (.cells #[.string T1, .string T2, .string P1, .string T4, .string ⟨#[114, 111, 117, 110, 100, 32, 49, 48, 48, 48, 48, 48, 48, 48, 48, 48, 48, 48, 48, 48, 48, 48, 48, 48, 48]⟩, .string ⟨#[99, 97, 110, 99, 101, 108, 32, 49, 48, 48, 48, 48]⟩, .string T7, .string ⟨#[115, 116, 97, 116, 117, 115, 32, 43, 49]⟩, .string ⟨#[115, 116, 97, 116, 101, 32]⟩, .string ⟨#[32, 115, 116, 97, 116, 101]⟩] 9) (w5.heap.size + 1) hsz6
  clear hsz6
  generalize w5.heap.size + 1 = b3 at *
  have hx7 : Ext NoB w6 (w6.alloc (.cells #[.string T1, .string T2, .string P1, .string T4, .string ⟨#[114, 111, 117, 110, 100, 32, 49, 48, 48, 48, 48, 48, 48, 48, 48, 48, 48, 48, 48, 48, 48, 48, 48, 48, 48]⟩, .string ⟨#[99, 97, 110, 99, 101, 108, 32, 49, 48, 48, 48, 48]⟩, .string T7, .string ⟨#[115, 116, 97, 116, 117, 115, 32, 43, 49]⟩, .string ⟨#[115, 116, 97, 116, 101, 32]⟩, .string ⟨#[32, 115, 116, 97, 116, 101]⟩] 9)) := (Ext.refl NoB w6).alloc _
  have hcells : ∀ k : Nat, k < 10 → ∃ s : List UInt8, (#[.string T1, .string T2, .string P1, .string T4, .string ⟨#[114, 111, 117, 110, 100, 32, 49, 48, 48, 48, 48, 48, 48, 48, 48, 48, 48, 48, 48, 48, 48, 48, 48, 48, 48]⟩, .string ⟨#[99, 97, 110, 99, 101, 108, 32, 49, 48, 48, 48, 48]⟩, .string T7, .string ⟨#[115, 116, 97, 116, 117, 115, 32, 43, 49]⟩, .string ⟨#[115, 116, 97, 116, 101, 32]⟩, .string ⟨#[32, 115, 116, 97, 116, 101]⟩] : Array Value)[k]? = some (.string (mk s)) ∧ (cmdV s).2 = 3 := by
    intro k hk
    have hb := hbad.out
    have hk' : k = 0 ∨ k = 1 ∨ k = 2 ∨ k = 3 ∨ k = 4 ∨ k = 5 ∨ k = 6 ∨ k = 7 ∨ k = 8 ∨ k = 9 := by omega
    rcases hk' with rfl | rfl | rfl | rfl | rfl | rfl | rfl | rfl | rfl | rfl
    · exact ⟨_, congrArg (fun t => some (Value.string t)) hT1.out, hb _ (by simp [badS])⟩
    · exact ⟨_, congrArg (fun t => some (Value.string t)) hT2.out, hb _ (by simp [badS])⟩
    · exact ⟨_, congrArg (fun t => some (Value.string t)) hP1.out, hb _ (by simp [badS])⟩
    · exact ⟨_, congrArg (fun t => some (Value.string t)) hT4.out, hb _ (by simp [badS])⟩
    · exact ⟨[114, 111, 117, 110, 100, 32, 49, 48, 48, 48, 48, 48, 48, 48, 48, 48, 48, 48, 48, 48, 48, 48, 48, 48, 48], rfl, hb _ (by simp [badS])⟩
    · exact ⟨[99, 97, 110, 99, 101, 108, 32, 49, 48, 48, 48, 48], rfl, hb _ (by simp [badS])⟩
    · exact ⟨_, congrArg (fun t => some (Value.string t)) hT7.out, hb _ (by simp [badS])⟩
    · exact ⟨[115, 116, 97, 116, 117, 115, 32, 43, 49], rfl, hb _ (by simp [badS])⟩
    · exact ⟨[115, 116, 97, 116, 101, 32], rfl, hb _ (by simp [badS])⟩
    · exact ⟨[32, 115, 116, 97, 116, 101], rfl, hb _ (by simp [badS])⟩
  have hxw7 := hx6.trans hx7 (fun _ _ e => e)
  generalize w6.alloc (.cells #[.string T1, .string T2, .string P1, .string T4, .string ⟨#[114, 111, 117, 110, 100, 32, 49, 48, 48, 48, 48, 48, 48, 48, 48, 48, 48, 48, 48, 48, 48, 48, 48, 48, 48]⟩, .string ⟨#[99, 97, 110, 99, 101, 108, 32, 49, 48, 48, 48, 48]⟩, .string T7, .string ⟨#[115, 116, 97, 116, 117, 115, 32, 43, 49]⟩, .string ⟨#[115, 116, 97, 116, 101, 32]⟩, .string ⟨#[32, 115, 116, 97, 116, 101]⟩] 9) = w7 at *
  generalize (#[.string T1, .string T2, .string P1, .string T4, .string ⟨#[114, 111, 117, 110, 100, 32, 49, 48, 48, 48, 48, 48, 48, 48, 48, 48, 48, 48, 48, 48, 48, 48, 48, 48, 48]⟩, .string ⟨#[99, 97, 110, 99, 101, 108, 32, 49, 48, 48, 48, 48]⟩, .string T7, .string ⟨#[115, 116, 97, 116, 117, 115, 32, 43, 49]⟩, .string ⟨#[115, 116, 97, 116, 101, 32]⟩, .string ⟨#[32, 115, 116, 97, 116, 101]⟩] : Array Value) = cells at *
  have hcells := Lib.hid hcells
  go_loopw [77] (fun i wr => ∃ k : Nat, k ≤ 10 ∧ i = .int .i64 k ∧ Ext NoB w7 wr) (fun i _ => 10 - (intOf i).toNat)
  case atStart => exact ⟨0, by omega, rfl, Ext.refl _ _⟩
  case round =>
    obtain ⟨k, hk, rfl, hext⟩ := hrel
    by_cases hlt : k < 10
    · have t0 : decide (k < 10) = true := by simp [hlt]
      have t0' : decide ((k : Int) < 10) = true := by simp; omega
      obtain ⟨s, hs1, hs2⟩ := hcells.out k hlt
      have hld := cell_of_row wr b3 k cells _ (0, 0) (hext.keep hrow nb)
      rw [hs1] at hld
      have hpa := cmParse_calls (mk s) wr (hG.keep (hxw7.trans hext (fun _ _ e => e)))
      rw [show (mk s).data.toList = s by simp [mk], hs2] at hpa
      generalize (cmdV s).1 = c at *
      generalize mk s = S at *
      replace hpa := Lib.hid hpa
      clear hs1 hs2
      go_wp2_with fail
      refine hpa.out.mono ?_
      rintro e w8 ⟨bv, pv, gb, gp, rfl, hOb, hOp, hgb, hgp, hx8⟩
      obtain ⟨Ab3, cb3, bb3, ob3, rfl, hrb0, _⟩ := hOb.read
      obtain ⟨Ap3, cp3, bp3, op3, rfl, hrp0, _⟩ := hOp.read
      have hx9 : Ext NoB w8 (w8.alloc (.cells #[.int .i64 c.k, .int .i64 c.t, .int .i64 c.p, .int .i64 c.i, .int .u64 c.n, .int .u64 c.m, .slice Ab3 c.body.length cb3, .slice Ap3 c.preds.length cp3] 29)) := (Ext.refl NoB w8).alloc _
      go_wp2_with fail
      go_roundw
      case rel => exact ⟨k + 1, by omega, by go_num, (hext.trans hx8 (fun _ _ e => e)).trans hx9 (fun _ _ e => e)⟩
      case measure => simp [intOf]; omega
    · have t0 : decide (k < 10) = false := by simp; omega
      have t0' : decide ((k : Int) < 10) = false := by simp; omega
      go_wp2_with (first
        | (go_at_call 9; refine (awake24_calls wr (hG.keep (hxw7.trans hext (fun _ _ e => e)))).mono ?_; rintro e w9 ⟨rfl, hx9⟩))
      go_ret
      exact ⟨rfl, (hxw7.trans hext (fun _ _ e => e)).trans hx9 (fun _ _ e => e)⟩
end Go.Proofs.YtgiimmiandhkhaaDoor
