/- The bodies: told, Text. -/
import Derived.Test.YtgiimmiandhkhaaDoorProg
import Derived.Test.YtgiimmiandhkhaaDoorBoB
import Derived.Test.YtgiimmiandhkhaaDoorShelf
import Derived.Sort.Grow
import Derived.Lib.ItoaLen
namespace Go.Proofs.YtgiimmiandhkhaaDoor
open Go.RowKit
set_option linter.unusedSimpArgs false
set_option linter.unusedVariables false
attribute [local go_sem] pairV

/-- A text of these bytes. -/
def mk (l : List UInt8) : ByteArray := ⟨l.toArray⟩
theorem mk_app (a b : List UInt8) : mk a ++ mk b = mk (a ++ b) := by
  unfold mk
  apply ByteArray.ext
  simp [ByteArray.data_append]

theorem one_cat (l : List UInt8) : (⟨#[32]⟩ : ByteArray) ++ mk l = mk (32 :: l) := mk_app [32] l
theorem mk_cat (a b : List UInt8) : mk a ++ mk b = mk (a ++ b) := mk_app a b
def wdOf (k : Int) : List UInt8 := if k = 1 then [110, 111, 112] else if k = 2 then [115, 117, 98, 109, 105, 116] else if k = 3 then [97, 102, 116, 101, 114] else if k = 4 then [99, 97, 110, 99, 101, 108] else [112, 97, 110, 105, 99]
def arOf (k : Int) : Nat := if k = 1 then 0 else if k = 2 then 1 else if k = 3 then 2 else if k = 4 then 1 else 0
def argsL (o : BOp) (q : Nat) : List UInt8 := (([o.a, o.b].take q).map (fun x => 32 :: Lib.itoa x)).flatten
/-- An op's text. -/
def toldL (o : BOp) : List UInt8 := wdOf o.k ++ argsL o (arOf o.k)
theorem fits_bnd {o : BOp} (h : fitsB o = true) : 1 ≤ o.k ∧ o.k ≤ 5 ∧ 0 ≤ o.a ∧ o.a ≤ 1000 ∧ 0 ≤ o.b ∧ o.b ≤ 1000000 := by
  obtain ⟨k, a, b⟩ := o
  simp only [fitsB, Bool.and_eq_true, decide_eq_true_iff] at h
  obtain ⟨⟨⟨h1, h2⟩, h3, h4⟩, h5, h6⟩ := h
  have hk : k = 1 ∨ k = 2 ∨ k = 3 ∨ k = 4 ∨ k = 5 := by omega
  have e1 : spanOf 1 0 = (0, 0) := by decide
  have e2 : spanOf 1 1 = (0, 0) := by decide
  have e3 : spanOf 2 0 = (0, 7) := by decide
  have e4 : spanOf 2 1 = (0, 0) := by decide
  have e5 : spanOf 3 0 = (0, 7) := by decide
  have e6 : spanOf 3 1 = (0, 1000000) := by decide
  have e7 : spanOf 4 0 = (1, 1000) := by decide
  have e8 : spanOf 4 1 = (0, 0) := by decide
  have e9 : spanOf 5 0 = (0, 0) := by decide
  have e10 : spanOf 5 1 = (0, 0) := by decide
  rcases hk with rfl | rfl | rfl | rfl | rfl
  · rw [e1] at h3 h4; rw [e2] at h5 h6; dsimp only at *; omega
  · rw [e3] at h3 h4; rw [e4] at h5 h6; dsimp only at *; omega
  · rw [e5] at h3 h4; rw [e6] at h5 h6; dsimp only at *; omega
  · rw [e7] at h3 h4; rw [e8] at h5 h6; dsimp only at *; omega
  · rw [e9] at h3 h4; rw [e10] at h5 h6; dsimp only at *; omega
theorem zero_str (w : World) : (zeroValue 9).run Tryd.prog w = .ok (strV ⟨#[]⟩) w := by kernel_rfl
theorem words_look {w : World} {r : Nat} {m : List ((Int × Int) × ByteArray)} (hM : MapAt w r (pairV .i64) strV m) (hp : m.Perm wordsL) (k i : Int) :
    (Instr.lookup 102 (.map (some r)) (.agg #[.int .i64 k, .int .i64 i]) true).run Tryd.prog w = .ok (.tuple #[.string ((mget wordsL (k, i)).getD ⟨#[]⟩), .bool (mget wordsL (k, i)).isSome]) w := by
  have := hM.run_lookup key_shape Tryd.underlying102 (z := ⟨#[]⟩) zero_str (k, i) true
  simp only [if_true, mget_perm hp (by decide)] at this
  exact this
theorem words_at {k : Int} (h1 : 1 ≤ k) (h5 : k ≤ 5) : mget wordsL (k, arOf k) = some (mk (wdOf k)) ∧ ∀ j : Nat, j < arOf k → mget wordsL (k, j) = none := by
  have hk : k = 1 ∨ k = 2 ∨ k = 3 ∨ k = 4 ∨ k = 5 := by omega
  rcases hk with rfl | rfl | rfl | rfl | rfl
  · exact ⟨by rfl, fun j hj => absurd hj (Nat.not_lt_zero _)⟩
  · exact ⟨by rfl, fun j hj => by have : j < 1 := hj; obtain rfl : j = 0 := (by omega); rfl⟩
  · exact ⟨by rfl, fun j hj => by have : j < 2 := hj; have : j = 0 ∨ j = 1 := (by omega); rcases this with rfl | rfl <;> rfl⟩
  · exact ⟨by rfl, fun j hj => by have : j < 1 := hj; obtain rfl : j = 0 := (by omega); rfl⟩
  · exact ⟨by rfl, fun j hj => absurd hj (Nat.not_lt_zero _)⟩
theorem ext_grow (w : World) (q : Nat) (os : Array Obj) : Ext NoB w (Go.Sort.grow (w.drewN q) os) :=
  ⟨rfl, rfl, rfl, by simp [Go.Sort.grow, World.drewN], fun k hk _ => by simp [Go.Sort.grow, World.drewN, Array.getElem?_append, hk]⟩
theorem itoa_calls (n : Int) (h0 : 0 ≤ n) (h1 : n ≤ 1000000) (w : World) (hG : Gl w) : Calls Tryd.prog 23 #[.int .i64 n] w fun e w' => e = .returned (.string (mk (Lib.itoa n))) ∧ Ext NoB w w' :=
  (Tryd.strconv_Itoa n (by omega) (by omega) w hG.tab).mono fun e w' ⟨he, k, os, hw⟩ => ⟨he, by rw [hw]; exact ext_grow w k os⟩
theorem ar_le (k : Int) : arOf k ≤ 2 := by unfold arOf; (repeat' split) <;> omega
theorem argsL_succ (o : BOp) (q : Nat) (h : q < 2) : argsL o (q + 1) = argsL o q ++ 32 :: Lib.itoa (if q = 0 then o.a else o.b) := by
  have : q = 0 ∨ q = 1 := by omega
  rcases this with rfl | rfl <;> simp [argsL]

theorem mk_size (l : List UInt8) : (mk l).size = l.length := rfl
theorem wd_le (k : Int) : (wdOf k).length ≤ 6 := by unfold wdOf; (repeat' split) <;> decide
theorem itoa_le (n : Int) (h0 : 0 ≤ n) (h1 : n ≤ 1000000) : (Lib.itoa n).length ≤ 21 := Lib.itoa_length_le n (by omega) (by omega)
theorem args_le (o : BOp) (h : fitsB o = true) (q : Nat) : (argsL o q).length ≤ 44 := by
  obtain ⟨h1, h2, h3, h4, h5, h6⟩ := fits_bnd h
  have p1 := itoa_le o.a h3 (by omega)
  have p2 := itoa_le o.b h5 h6
  match q with
  | 0 => simp [argsL]
  | 1 => simp [argsL]; omega
  | q + 2 => simp [argsL]; omega
theorem told_le (o : BOp) (h : fitsB o = true) : (toldL o).length ≤ 50 := by
  have := wd_le o.k
  have := args_le o h (arOf o.k)
  unfold toldL
  rw [List.length_append]
  omega

set_option maxRecDepth 20000 in
set_option maxHeartbeats 4000000 in
theorem told_calls (o : BOp) (w : World) (hG : Gl w) (hf : fitsB o = true) :
    Calls Tryd.prog 52 #[.agg #[.int .i64 o.k, .int .i64 o.a, .int .i64 o.b]] w fun e w' => e = .returned (.string (mk (toldL o))) ∧ Ext NoB w w' := by
  obtain ⟨h1, h2, h3, h4, h5, h6⟩ := fits_bnd hf
  obtain ⟨q1, q2⟩ := words_at h1 h2
  have har := ar_le o.k
  have htl : Hid (toldL o = wdOf o.k ++ argsL o (arOf o.k)) := rfl
  have hsucc := Lib.hid (argsL_succ o)
  have ha0 : Hid (argsL o 0 = []) := rfl
  have hal := Lib.hid (args_le o hf)
  have hwl := Lib.hid (wd_le o.k)
  generalize hao : argsL o = ao at *
  generalize toldL o = tl at *
  clear hao hf
  obtain ⟨k, a, b⟩ := o
  dsimp only at *
  generalize arOf k = ar at *
  generalize wdOf k = wd at *
  have q1' := Lib.hid q1
  have q2' := Lib.hid q2
  have hG' := Lib.hid hG
  clear q1 q2
  have hx0 : Ext NoB w (w.alloc (.cells #[.int .i64 k, .int .i64 a, .int .i64 b] 81)) := (Ext.refl NoB w).alloc _
  have hb0 := alloc_at w (.cells #[.int .i64 k, .int .i64 a, .int .i64 b] 81)
  go_enter Tryd.func52, Tryd.ntmps52
  go_wp2_with fail
  refine (words_calls _).mono ?_
  rintro e w1 ⟨r, m, rfl, hM, hp, hx1, _⟩
  have hx01 := hx0.trans hx1 (fun _ _ e => e)
  have hb1 := hx1.keep hb0 nb
  have hlk := Lib.hid (fun (w' : World) (x : Ext NoB w1 w') (i : Int) => words_look (hM.keep x nb) hp k i)
  clear hM hp hx0 hx1 hb0
  go_wp2_with fail
  obtain ⟨bo, hbo⟩ : ∃ bo, w.heap.size = bo := ⟨_, rfl⟩
  rw [hbo] at hb1 ⊢
  clear hbo
  go_loopw [10] (fun i wr => ∃ j : Nat, j ≤ ar ∧ i = .int .i64 j ∧ Ext NoB w1 wr) (fun i _ => 3 - (intOf i).toNat)
  case atStart => exact ⟨0, Nat.zero_le _, rfl, Ext.refl _ _⟩
  case round =>
    obtain ⟨j, hj, rfl, hext⟩ := hrel
    have hb := hext.keep hb1 nb
    have f0 : wr.cell? ⟨bo, 0, none⟩ = some (.int .i64 k) := by rw [cell_of_row wr bo 0 _ _ (0, 0) hb]; rfl
    have f1 : wr.cell? ⟨bo, 1, none⟩ = some (.int .i64 a) := by rw [cell_of_row wr bo 1 _ _ (0, 0) hb]; rfl
    have f2 : wr.cell? ⟨bo, 2, none⟩ = some (.int .i64 b) := by rw [cell_of_row wr bo 2 _ _ (0, 0) hb]; rfl
    have t0 : decide ((j : Int) < 3) = true := by simp; omega
    have t0' : decide (j < 3) = true := by simp; omega
    have g0 := hlk.out wr hext j
    by_cases hja : j = ar
    · subst hja
      rw [q1'.out] at g0
      simp only [Option.getD_some, Option.isSome_some] at g0
      go_wp2_with fail
      have hbl := alloc_at wr (.cells #[.int .i64 a, .int .i64 b] 3)
      have hxw : Ext NoB w (wr.alloc (.cells #[.int .i64 a, .int .i64 b] 3)) := (hx01.trans hext (fun _ _ e => e)).alloc _
      obtain ⟨bl, hbl'⟩ : ∃ bl, wr.heap.size = bl := ⟨_, rfl⟩
      rw [hbl'] at hbl ⊢
      clear hbl' f0 f1 f2 hb g0 hb1
      generalize wr.alloc (.cells #[.int .i64 a, .int .i64 b] 3) = w2 at *
      go_loopw [5, 31] (fun s i wz => ∃ q : Nat, q ≤ j ∧ i = .int .i64 q ∧ s = .string (mk (wd ++ ao q)) ∧ Ext NoB w2 wz) (fun _ i _ => j - (intOf i).toNat)
      case atStart => exact ⟨0, Nat.zero_le _, rfl, by rw [ha0.out, List.append_nil], Ext.refl _ _⟩
      case round =>
        obtain ⟨q, hq, rfl, rfl, hxz⟩ := hrel
        have hbz := hxz.keep hbl nb
        have c0 : wr.cell? ⟨bl, 0, none⟩ = some (.int .i64 a) := by rw [cell_of_row wr bl 0 _ _ (0, 0) hbz]; rfl
        have c1' : wr.cell? ⟨bl, 1, none⟩ = some (.int .i64 b) := by rw [cell_of_row wr bl 1 _ _ (0, 0) hbz]; rfl
        by_cases hqj : q < j
        · have t1 : decide (q < j) = true := by simp [hqj]
          have t1' : decide ((q : Int) < j) = true := by simp; omega
          have : q = 0 ∨ q = 1 := by omega
          rcases this with rfl | rfl
          · have z := 0
            clear z
            have hst := hsucc.out 0 (by omega)
            have c1 := one_cat (Lib.itoa a)
            have c2 := mk_cat (wd ++ ao 0) (32 :: Lib.itoa a)
            rw [List.append_assoc, show ao 0 ++ 32 :: Lib.itoa a = ao (0 + 1) from hst.symm] at c2
            clear hst
            go_wp2_with fail
            refine (itoa_calls a (by omega) (by omega) _ (hG'.out.keep (hxw.trans hxz (fun _ _ e => e)))).mono ?_
            rintro e w3 ⟨rfl, hx3⟩
            have z1 : ¬ 9223372036854775807 < 1 + (mk (Lib.itoa a)).size := by
              have := itoa_le a (by omega) (by omega)
              rw [mk_size]; omega
            have z2 : ¬ 9223372036854775807 < (mk (wd ++ ao 0)).size + (mk (32 :: Lib.itoa a)).size := by
              have := itoa_le a (by omega) (by omega)
              have := hal.out 0
              have := hwl.out
              rw [mk_size, mk_size, List.length_append, List.length_cons]; omega
            generalize mk (Lib.itoa a) = It at *
            generalize mk (32 :: Lib.itoa a) = Jt at *
            go_wp2_with fail
            go_roundw
            case rel => exact ⟨0 + 1, by omega, by rfl, by rfl, hxz.trans hx3 (fun _ _ e => e)⟩
            case measure => simp [intOf]; try omega
          · have z := 0
            clear z
            have hst := hsucc.out 1 (by omega)
            have c1 := one_cat (Lib.itoa b)
            have c2 := mk_cat (wd ++ ao 1) (32 :: Lib.itoa b)
            rw [List.append_assoc, show ao 1 ++ 32 :: Lib.itoa b = ao (1 + 1) from hst.symm] at c2
            clear hst
            go_wp2_with fail
            refine (itoa_calls b (by omega) (by omega) _ (hG'.out.keep (hxw.trans hxz (fun _ _ e => e)))).mono ?_
            rintro e w3 ⟨rfl, hx3⟩
            have z1 : ¬ 9223372036854775807 < 1 + (mk (Lib.itoa b)).size := by
              have := itoa_le b (by omega) (by omega)
              rw [mk_size]; omega
            have z2 : ¬ 9223372036854775807 < (mk (wd ++ ao 1)).size + (mk (32 :: Lib.itoa b)).size := by
              have := itoa_le b (by omega) (by omega)
              have := hal.out 1
              have := hwl.out
              rw [mk_size, mk_size, List.length_append, List.length_cons]; omega
            generalize mk (Lib.itoa b) = It at *
            generalize mk (32 :: Lib.itoa b) = Jt at *
            go_wp2_with fail
            go_roundw
            case rel => exact ⟨1 + 1, by omega, by rfl, by rfl, hxz.trans hx3 (fun _ _ e => e)⟩
            case measure => simp [intOf]; try omega
        · have t1 : decide (q < j) = false := by simp [hqj]
          have t1' : decide ((q : Int) < j) = false := by simp; omega
          obtain rfl : q = j := by omega
          go_wp2_with fail
          go_ret
          exact ⟨by rw [htl.out]; rfl, hxw.trans hxz (fun _ _ e => e)⟩
    · rw [q2'.out j (by omega)] at g0
      simp only [Option.getD_none, Option.isSome_none] at g0
      go_wp2_with fail
      go_roundw
      case rel => exact ⟨j + 1, by omega, by go_num, hext⟩
      case measure => simp [intOf]; omega

end Go.Proofs.YtgiimmiandhkhaaDoor
