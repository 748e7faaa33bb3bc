/- The bodies: the reference's BodyText. -/
import Derived.Test.YtgiimmiandhkhaaGreatDoorProg
import Derived.Test.YtgiimmiandhkhaaGreatDoorBoY
namespace Go.Proofs.YtgiimmiandhkhaaGreatDoor
open Go.RowKit
set_option linter.unusedSimpArgs false
set_option linter.unusedVariables false

theorem join_snoc (c : UInt8) : ∀ (L : List (List UInt8)) (x : List UInt8), L ≠ [] → Lib.join (L ++ [x]) [c] = (Lib.join L [c] ++ [c]) ++ x
  | [], _, h => absurd rfl h
  | y :: r, x, _ => by
    rw [List.cons_append, Lib.join_cons, Lib.join_cons]
    simp [Lib.joinTail]

set_option maxRecDepth 20000 in
set_option maxHeartbeats 4000000 in
theorem textR_calls (A : Option Addr) (c b o : Nat) (xs : List BOp) (w : World) (hx : SlR w 3 opB A c b o xs) :
    Calls Tryz.prog 37 #[.slice A xs.length c] w fun e w' => e = .returned (.tuple #[.string (if okB xs then mk (textL xs) else ⟨#[]⟩), .bool (okB xs)]) ∧ Ext NoB w w' := by
  have hl := hx.le
  have hm := hx.max
  unfold maxLen at hm
  go_enter Tryz.func37, Tryz.ntmps37
  go_wp2_with fail
  refine (okR_calls A c b o xs w hx).mono ?_
  rintro e w1 ⟨rfl, hx1⟩
  by_cases hok : okB xs = true
  · have hok' := Lib.hid hok
    have h16 : xs.length ≤ 16 := by
      unfold okB at hok
      rw [Bool.and_eq_true, decide_eq_true_iff] at hok
      exact hok.1
    rw [hok]
    by_cases h0 : xs.length = 0
    · have hxs : xs = [] := List.eq_nil_of_length_eq_zero h0
      subst hxs
      clear hok
      go_wp2_with fail
      go_ret2
      exact ⟨by simp [textL, mk], hx1⟩
    · have t0 : (((xs.length : Nat) : Int) == 0) = false := by rw [beq_eq_false_iff_ne]; omega
      have t0' : ((xs.length : Nat) == 0) = false := by rw [beq_eq_false_iff_ne]; omega
      obtain rfl := hx.addr (by omega)
      clear hok
      go_wp2_with fail
      go_loopw [4, 5] (fun s i wr => ∃ (k : Nat) (sl : List UInt8), k ≤ xs.length ∧ i = .int .i64 k ∧ s = .string (mk sl) ∧ Hid (sl = Lib.join ((xs.take k).map toldL) [59]) ∧ Ext NoB w1 wr) (fun _ i _ => xs.length - (intOf i).toNat)
      case atStart => exact ⟨0, [], Nat.zero_le _, rfl, rfl, rfl, Ext.refl _ _⟩
      case round =>
        obtain ⟨k, sl, hk, rfl, rfl, hsl, hext⟩ := hrel
        have hsh : sl.length ≤ 400 := by
          have hall := hok'.out
          unfold okB at hall
          rw [Bool.and_eq_true] at hall
          have := join_len [59] ((xs.take k).map toldL) 19 (fun x hx => by
            obtain ⟨y, hy, rfl⟩ := List.mem_map.1 hx
            exact (told_fine y (List.all_eq_true.1 hall.2 y (List.mem_of_mem_take hy))).2.2) (by simp)
          rw [← hsl.out, List.length_map, List.length_take] at this
          have h2 : min k xs.length ≤ 16 := by omega
          have h3 : min k xs.length * (19 + 1) ≤ 16 * 20 := Nat.mul_le_mul_right _ h2
          omega
        by_cases hlt : k < xs.length
        · have t1 : decide (k < xs.length) = true := by simp [hlt]
          have hxe := (hx.keep hx1 nb1).keep hext nb1
          have e0 := hxe.cell opB_len k xs[k] (List.getElem?_eq_getElem hlt) 0 _ rfl
          have e1 := hxe.cell opB_len k xs[k] (List.getElem?_eq_getElem hlt) 1 _ rfl
          have e2 := hxe.cell opB_len k xs[k] (List.getElem?_eq_getElem hlt) 2 _ rfl
          rw [Nat.add_zero] at e0
          have hft : fitsB xs[k] = true := by
            have hok := hok'.out
            unfold okB at hok
            rw [Bool.and_eq_true] at hok
            exact List.all_eq_true.1 hok.2 _ (List.getElem_mem _)
          have htl := (told_fine _ hft).2.2
          have hstep : (xs.take (k + 1)).map toldL = (xs.take k).map toldL ++ [toldL xs[k]] := by
            rw [List.take_succ_eq_append_getElem hlt, List.map_append]; rfl
          have hot := Lib.hid (opText_calls xs[k] hft)
          generalize xs[k] = u at *
          by_cases hk0 : k = 0
          · subst hk0
            simp only [Nat.zero_mul, Nat.add_zero] at e0 e1 e2
            have hfin : Hid (sl ++ toldL u = Lib.join ((xs.take (0 + 1)).map toldL) [59]) := by
              show _ = _
              rw [hstep, hsl.out]
              simp [Lib.join_nil, Lib.join_one]
            have hstep := Lib.hid hstep
            have c2 := mk_cat sl (toldL u)
            have z2 : ¬ 9223372036854775807 < (mk sl).size + (mk (toldL u)).size := by rw [mk_size, mk_size]; omega
            generalize hS2 : mk (sl ++ toldL u) = S2 at *
            have hS2' := Lib.hid hS2
            clear hS2
            go_wp2_with fail
            refine (hot.out wr).mono ?_
            rintro e w3 ⟨rfl, hx3⟩
            generalize mk (toldL u) = Su at *
            generalize mk sl = Ss at *
            go_wp2_with fail
            go_roundw
            case rel => exact ⟨0 + 1, sl ++ toldL u, by omega, by rfl, by rw [hS2'.out], hfin.out, hext.trans hx3 (fun _ _ e => e)⟩
            case measure => simp [intOf]; omega
          · have t2 : decide (0 < k) = true := by simp; omega
            have t2' : decide ((0 : Int) < k) = true := by simp; omega
            have hfin : Hid ((sl ++ [59]) ++ toldL u = Lib.join ((xs.take (k + 1)).map toldL) [59]) := by
              show _ = _
              rw [hstep, join_snoc 59 _ _ (by
                intro e
                have := congrArg List.length e
                rw [List.length_map, List.length_take, List.length_nil] at this
                omega), hsl.out]
            have hstep := Lib.hid hstep
            have c1 := mk_cat sl [59]
            have c2 := mk_cat (sl ++ [59]) (toldL u)
            have z1 : ¬ 9223372036854775807 < (mk sl).size + 1 := by rw [mk_size]; omega
            have z2 : ¬ 9223372036854775807 < (mk (sl ++ [59])).size + (mk (toldL u)).size := by rw [mk_size, mk_size, List.length_append]; simp; omega
            generalize hS2 : mk (sl ++ [59] ++ toldL u) = S2 at *
            have hS2' := Lib.hid hS2
            clear hS2
            generalize mk (sl ++ [59]) = S1 at *
            have c1 : mk sl ++ (⟨#[59]⟩ : ByteArray) = S1 := c1
            generalize mk sl = Ss at *
            go_wp2_with fail
            refine (hot.out wr).mono ?_
            rintro e w3 ⟨rfl, hx3⟩
            generalize mk (toldL u) = Su at *
            go_wp2_with fail
            go_roundw
            case rel => exact ⟨k + 1, sl ++ [59] ++ toldL u, by omega, by go_num, by rw [hS2'.out], hfin.out, hext.trans hx3 (fun _ _ e => e)⟩
            case measure => simp [intOf]; omega
        · have t1 : decide (k < xs.length) = false := by simp [hlt]
          obtain rfl : k = xs.length := by omega
          have hfin : Hid (mk (textL xs) = mk sl) := by
            show _ = _
            rw [hsl.out, List.take_length]
            unfold textL
            rw [if_neg (fun e => h0 (by rw [e]; rfl))]
          generalize mk sl = Ss at *
          go_wp2_with fail
          go_ret2
          exact ⟨by rw [hfin.out]; rfl, hx1.trans hext (fun _ _ e => e)⟩
  · have hok' : okB xs = false := by simpa using hok
    rw [hok']
    go_wp2_with fail
    go_ret2
    exact ⟨by simp, hx1⟩
end Go.Proofs.YtgiimmiandhkhaaGreatDoor
