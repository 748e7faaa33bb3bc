/- The law WheelCuts: the walk. -/
import Derived.Test.YtnobodgjabgikaaProg
import Derived.Test.YtnobodgjabgikaaWhO
namespace Go.Proofs.Ytnobodgjabgikaa
open Go.RowKit Go.Sort
set_option linter.unusedSimpArgs false
set_option linter.unusedVariables false

/-- Timers 1, 2, .. by their dues. -/
def dueL (f : Nat → Nat) (k : Nat) : List (Int × Int) := (List.range k).map (fun (i : Nat) => ((i : Int) + 1, (f i : Int)))
theorem dueL_succ (f : Nat → Nat) (k : Nat) : dueL f (k + 1) = dueL f k ++ [((k : Int) + 1, (f k : Int))] := by
  unfold dueL; rw [List.range_succ, List.map_append]; rfl
theorem dueL_len (f : Nat → Nat) (k : Nat) : (dueL f k).length = k := by unfold dueL; simp
theorem dueL_mem (f : Nat → Nat) (k : Nat) (id d : Int) : (id, d) ∈ dueL f k ↔ 1 ≤ id ∧ id ≤ k ∧ d = f (id - 1).toNat := by
  unfold dueL
  rw [List.mem_map]
  constructor
  · rintro ⟨i, hi, h⟩
    rw [List.mem_range] at hi
    obtain ⟨rfl, rfl⟩ := Prod.mk.inj h
    exact ⟨by omega, by omega, by congr 2; omega⟩
  · rintro ⟨h1, h2, rfl⟩
    exact ⟨(id - 1).toNat, by rw [List.mem_range]; omega, Prod.ext (by show (((id - 1).toNat : Nat) : Int) + 1 = id; omega) rfl⟩
theorem dueL_nodup (f : Nat → Nat) (k : Nat) : ((dueL f k).map (·.1)).Nodup := by
  unfold dueL
  rw [List.map_map]
  refine List.Pairwise.map _ (fun a b (h : a ≠ b) => ?_) List.nodup_range
  show (a : Int) + 1 ≠ (b : Int) + 1
  omega
theorem dueL_get (f : Nat → Nat) (k : Nat) (id d : Int) : mget (dueL f k) id = some d ↔ 1 ≤ id ∧ id ≤ k ∧ d = f (id - 1).toNat :=
  ⟨fun h => (dueL_mem f k id d).1 (mem_of_mget h), fun h => mget_of_mem (dueL_nodup f k) ((dueL_mem f k id d).2 h)⟩
theorem dueL_none (f : Nat → Nat) (k : Nat) {id : Int} (h : id < 1 ∨ (k : Int) < id) : mget (dueL f k) id = none := by
  cases hm : mget (dueL f k) id with
  | none => rfl
  | some d =>
    have := (dueL_get f k id d).1 hm
    omega

/-- Two wheels that share no block. -/
def Dis (A B : Wh) : Prop := ∀ q, A.own q → ¬ B.own q
theorem Dis.symm {A B : Wh} (h : Dis A B) : Dis B A := fun q h1 h2 => h q h2 h1
theorem Dis.step {A A' B : Wh} {w w' : World} (h : Dis A B) (a : Aft A A' w w') (hB : Good w B) : Dis A' B := fun q h1 h2 => by
  rcases a.own q h1 with h3 | h3
  · exact h q h3 h2
  · have := hB.lt q h2; omega

set_option maxRecDepth 100000 in
set_option maxHeartbeats 8000000 in
theorem cuts_walk (A0 : Option Addr) (c0 b0 o0 : Nat) (xs : List Nat) (A1 : Option Addr) (c1 b1 o1 : Nat) (ys : List Nat) (w : World) (hx : SlR w 1 natE A0 c0 b0 o0 xs) (hxb : ∀ n ∈ xs, n < 18446744073709551616) (hy : SlR w 1 natE A1 c1 b1 o1 ys) (hyb : ∀ n ∈ ys, n < 18446744073709551616) :
    Calls Try.prog 3 #[.slice A0 xs.length c0, .slice A1 ys.length c1] w fun e w' => e = .returned (.bool true) ∧ Ext NoB w w' := by
  have hxl := hx.le
  have hxm := hx.max
  have hyl := hy.le
  have hym := hy.max
  unfold maxLen at hxm hym
  obtain ⟨n, hn40, hnx, hn⟩ : ∃ n : Nat, n ≤ 40 ∧ n ≤ xs.length ∧ min (xs.length : Int) 40 = (n : Int) := ⟨min xs.length 40, by omega, by omega, by omega⟩
  have hxb' := Lib.hid hxb
  have hyb' := Lib.hid hyb
  clear hxb hyb
  obtain ⟨f, hf⟩ : ∃ f : Nat → Nat, ∀ i (h : i < xs.length), f i = xs[i] % 17592186044416 := ⟨fun i => xs.getD i 0 % 17592186044416, fun i h => by simp [List.getD, h]⟩
  have hf' := Lib.hid hf
  clear hf
  go_enter Try.func3, Try.ntmps3
  go_wp2_with fail
  refine (newG 0 _ (by omega)).mono ?_
  rintro e w1 ⟨WA, rfl, hA, nA, dA, x1, oA⟩
  obtain ⟨ba, hba⟩ : ∃ b, WA.b = b := ⟨_, rfl⟩
  rw [hba]
  have hba' := Lib.hid hba
  have nA' := Lib.hid nA
  have dA' := Lib.hid dA
  clear hba nA dA
  go_wp2_with fail
  refine (newG 0 _ (by omega)).mono ?_
  rintro e w2 ⟨WB, rfl, hB, nB, dB, x2, oB⟩
  obtain ⟨bb, hbb⟩ : ∃ b, WB.b = b := ⟨_, rfl⟩
  rw [hbb]
  have hbb' := Lib.hid hbb
  have nB' := Lib.hid nB
  have dB' := Lib.hid dB
  clear hbb nB dB
  have hdis : Dis WA WB := fun q h1 h2 => by have := oB q h2; have := hA.lt q h1; omega
  have hA2 := hA.keep x2 (fun _ _ => nb)
  have z1 := x1.size
  have hx12 := x1.trans x2 (fun _ _ e => e)
  have hoA2 : ∀ q, WA.own q → w.heap.size ≤ q := oA
  have hoB2 : ∀ q, WB.own q → w.heap.size ≤ q := fun q hq => by have := oB q hq; omega
  have hblt : 0 < xs.length → b0 < w.heap.size := fun hp => World.block_lt_of_cell? w ⟨b0, o0 + 0, none⟩ (hx.natCell 0 hp)
  have hblt1 : 0 < ys.length → b1 < w.heap.size := fun hp => World.block_lt_of_cell? w ⟨b1, o1 + 0, none⟩ (hy.natCell 0 hp)
  clear hA oA oB x1 x2
  go_wp2_with fail
  go_loopw [8] (fun i wr => ∃ (k : Nat) (A B : Wh), k ≤ n ∧ i = .int .i64 k ∧ Good wr A ∧ Good wr B ∧ Hid (A.b = ba) ∧ Hid (B.b = bb) ∧ Hid (A.now = 0) ∧ Hid (B.now = 0) ∧ Hid (A.due = dueL f k) ∧ Hid (B.due = dueL f k) ∧ Dis A B ∧ Ext NoB w wr ∧ (∀ q, A.own q → w.heap.size ≤ q) ∧ (∀ q, B.own q → w.heap.size ≤ q)) (fun i _ => n - (intOf i).toNat)
  case atStart => exact ⟨0, WA, WB, Nat.zero_le _, rfl, hA2, hB, hba', hbb', nA', nB', Lib.hid (by rw [dA'.out]; rfl), Lib.hid (by rw [dB'.out]; rfl), hdis, hx12, hoA2, hoB2⟩
  case round =>
    clear hA2 hB hba' hbb' nA' nB' dA' dB' hdis hx12 hoA2 hoB2
    obtain ⟨k, A, B, hk, rfl, hA, hB, hba, hbb, nA, nB, dA, dB, hdis, hext, oA, oB⟩ := hrel
    by_cases hlt : k < n
    · have t0 : decide ((k : Int) < n) = true := by simp; omega
      obtain rfl := hx.addr (by omega)
      have hkx : k < xs.length := by omega
      have hck := (hx.keep hext nb1).natCell k hkx
      have hxk := hxb'.out xs[k] (List.getElem_mem hkx)
      have hand := and_low xs[k] 44 hxk (by decide)
      rw [← hf'.out k hkx] at hand
      generalize xs[k] = u at *
      have hfk : f k < 17592186044416 := by rw [hf'.out k hkx]; exact Nat.mod_lt _ (by omega)
      generalize hfd : f k = d at *
      have hfd' := Lib.hid hfd
      clear hfd
      simp only [show ((2 ^ 44 - 1 : Nat) : Int) = 17592186044415 from rfl] at hand
      go_wp2_with fail
      refine (addOK A hba.out ((k : Int) + 1) d _ hA (by omega) (by omega) (by rw [dA.out]; exact dueL_none f k (.inr (by omega))) (by rw [dA.out, dueL_len]; omega)).mono ?_
      rintro e w3 ⟨A', rfl, a3, n3, d3⟩
      have n3' := Lib.hid (n3.trans nA.out)
      have d3' := Lib.hid (show A'.due = dueL f (k + 1) by rw [d3, dA.out, dueL_succ, hfd'.out])
      clear n3 d3
      have hB3 := hB.keep a3.ext (fun q h1 h2 => hdis q h2 h1)
      have hdis3 := hdis.step a3 hB
      go_wp2_with fail
      refine (addOK B hbb.out ((k : Int) + 1) d _ hB3 (by omega) (by omega) (by rw [dB.out]; exact dueL_none f k (.inr (by omega))) (by rw [dB.out, dueL_len]; omega)).mono ?_
      rintro e w4 ⟨B', rfl, a4, n4, d4⟩
      have n4' := Lib.hid (n4.trans nB.out)
      have d4' := Lib.hid (show B'.due = dueL f (k + 1) by rw [d4, dB.out, dueL_succ, hfd'.out])
      clear n4 d4
      have hA4 := a3.good.keep a4.ext (fun q h1 h2 => hdis3 q h1 h2)
      have hdis4 := (hdis3.symm.step a4 a3.good).symm
      have z0 := hext.size
      have z3 := a3.ext.size
      go_wp2_with fail
      go_roundw
      case rel =>
        refine ⟨k + 1, A', B', by omega, by go_num, hA4, a4.good, Lib.hid (a3.b.trans hba.out), Lib.hid (a4.b.trans hbb.out), n3', n4', d3', d4', hdis4, (hext.trans (F := NoB) a3.ext (fun q h1 h2 => ?_)).trans (F := NoB) a4.ext (fun q h1 h2 => ?_), fun q hq => ?_, fun q hq => ?_⟩
        · have := oA q h2; omega
        · have := oB q h2; omega
        · rcases a3.own q hq with h | h
          · exact oA q h
          · omega
        · rcases a4.own q hq with h | h
          · exact oB q h
          · omega
      case measure => simp [intOf]; omega
    · have t0 : decide ((k : Int) < n) = false := by simp; omega
      obtain rfl : k = n := by omega
      go_wp2_with fail
      refine (advT A hba.out 0 0 _ hA (by omega) (by rw [nA.out]; rfl)).mono ?_
      rintro e w3 ⟨v3, g3, ps3, A3, rfl, hO3, ht3, hl3, a3, n3, d3, hg3⟩
      have n3' := Lib.hid n3
      have ht3' := Lib.hid (show TolD (dueL f k) 0 ps3 from dA.out ▸ ht3.d)
      have d3' := Lib.hid (show A3.due = lateD (dueL f k) 0 by rw [d3, dA.out]; rfl)
      have hba3 := Lib.hid (a3.b.trans hba.out)
      clear n3 d3 ht3
      have hB3 := hB.keep a3.ext (fun q h1 h2 => hdis q h2 h1)
      have hdis3 := hdis.step a3 hB
      have z0 := hext.size
      have z3 := a3.ext.size
      have hext3 := hext.trans (F := NoB) a3.ext (fun q h1 h2 => by have := oA q h2; omega)
      have oA3 : ∀ q, A3.own q → w.heap.size ≤ q := fun q hq => by
        rcases a3.own q hq with h | h
        · exact oA q h
        · omega
      have hg3' : ∀ q, g3 = some q → w.heap.size ≤ q ∧ ¬ A3.own q ∧ ¬ B.own q := fun q e => ⟨by have := (hg3 q e).1; omega, (hg3 q e).2, fun h => by have := hB.lt q h; have := (hg3 q e).1; omega⟩
      have hDn := Lib.hid (dueL_nodup f k)
      have hDl := Lib.hid (dueL_len f k)
      generalize hDD : dueL f k = D at *
      clear hDD
      have good3 := a3.good
      clear hA hba nA dA hB hdis hext oA hg3 a3 z3 z0
      go_wp2_with fail
      go_loopw [10, 11, 12] (fun p now i wr => ∃ (j N : Nat) (A' : Wh) (g : Option Nat) (ps : List Tm), j ≤ ys.length ∧ j ≤ 40 ∧ i = .int .i64 j ∧ now = .int .u64 N ∧ N ≤ j * 274877906944 ∧ Good wr A' ∧ Good wr B ∧ Hid (A'.b = ba) ∧ Hid (A'.now = N) ∧ Hid (A'.due = lateD D N) ∧ Hid (TolD D N ps) ∧ ps.length ≤ 1000 ∧ SlO wr 33 2 timerE g p ps ∧ Dis A' B ∧ Ext NoB w wr ∧ (∀ q, A'.own q → w.heap.size ≤ q) ∧ (∀ q, g = some q → w.heap.size ≤ q ∧ ¬ A'.own q ∧ ¬ B.own q)) (fun _ _ i _ => ys.length - (intOf i).toNat)
      case atStart => exact ⟨0, 0, A3, g3, ps3, by omega, by omega, rfl, rfl, by omega, good3, hB3, hba3, n3', d3', ht3', hl3, hO3, hdis3, hext3, oA3, hg3'⟩
      case round =>
        clear good3 hB3 hba3 n3' d3' ht3' hl3 hO3 hdis3 hext3 oA3 hg3'
        obtain ⟨j, N, A', g, ps, hj1, hj2, rfl, rfl, hN, hA, hB, hba, nA, dA, ht, hl, hO, hdis, hext, oA, hg⟩ := hrel
        have z0 := hext.size
        by_cases hlt : j < ys.length ∧ j < 40
        · have t0 : decide (j < ys.length) = true := by simp [hlt.1]
          have t1 : decide ((j : Int) < 40) = true := by simp; omega
          obtain ⟨hj3, hj4⟩ := hlt
          obtain rfl := hy.addr (by omega)
          have hck := (hy.keep hext nb1).natCell j hj3
          have hyj := hyb'.out ys[j] (List.getElem_mem hj3)
          have hand := and_low ys[j] 38 hyj (by decide)
          generalize ys[j] = u at *
          have hyb2 : u % 2 ^ 38 < 274877906944 := Nat.mod_lt _ (by decide)
          generalize u % 2 ^ 38 = y at *
          simp only [show ((2 ^ 38 - 1 : Nat) : Int) = 274877906943 from rfl] at hand
          obtain ⟨M, hM⟩ : ∃ M : Nat, (N : Int) + (y : Int) = (M : Int) := ⟨N + y, by omega⟩
          have hM1 : N ≤ M := by omega
          have hM2 : M ≤ (j + 1) * 274877906944 := by omega
          go_wp2_with fail
          refine (advT A' hba.out M M _ hA (by omega) (by rw [nA.out]; omega)).mono ?_
          rintro e w4 ⟨v4, g4, xs4, A4, rfl, hO4, ht4, hl4, a4, n4, d4, hg4⟩
          have n4' := Lib.hid n4
          have ht4' := Lib.hid (ht.out.join hDn.out (show TolD (lateD D N) M xs4 from dA.out ▸ ht4.d) hM1)
          have d4' := Lib.hid (show A4.due = lateD D M by rw [d4, dA.out]; exact late_late D hM1)
          have hba4 := Lib.hid (a4.b.trans hba.out)
          clear n4 d4 ht4
          have hB4 := hB.keep a4.ext (fun q h1 h2 => hdis q h2 h1)
          have hdis4 := hdis.step a4 hB
          have z4 := a4.ext.size
          have hO' := hO.keep a4.ext (fun q e1 e2 => (hg q e1).2.1 e2)
          obtain ⟨A6, c6, b6, o6, rfl, hr6, hgr6⟩ := hO4.read
          have hlj := ht4'.out.len
          rw [List.length_append, hDl.out] at hlj
          have hb1 : (ps.length + xs4.length) * 16 ≤ 140737488355328 := by omega
          have hb2 : ps.length + xs4.length ≤ maxLen := by unfold maxLen; omega
          go_wp2_with (at_builtin; go_loud (refine wpList_appendO rfl rfl elem_tm timerE_len timerE_one hO' rfl hr6 rfl rfl hb1 hb2 (fun v5 w5 g5 hO5 hx5 hg5 => ?_)))
          have hnA : ∀ q, g = some q → ¬ A4.own q := fun q e1 e2 => by
            rcases a4.own q e2 with h | h
            · exact (hg q e1).2.1 h
            · have := hO.lt e1; omega
          go_roundw
          case rel =>
            refine ⟨j + 1, M, A4, g5, ps ++ xs4, by omega, by omega, by go_num, rfl, hM2, a4.good.keep hx5 (fun q h1 h2 => hnA q h2 h1), hB4.keep hx5 (fun q h1 h2 => (hg q h2).2.2 h1), hba4, n4', d4', ht4', by rw [List.length_append]; omega, hO5, hdis4, (hext.trans (F := NoB) a4.ext (fun q h1 h2 => ?_)).trans (F := NoB) hx5 (fun q h1 h2 => ?_), fun q hq => ?_, fun q e1 => ?_⟩
            · have := oA q h2; omega
            · have := (hg q h2).1; omega
            · rcases a4.own q hq with h | h
              · exact oA q h
              · omega
            · rcases hg5 with e2 | e2
              · rw [e2] at e1
                exact ⟨(hg q e1).1, hnA q e1, (hg q e1).2.2⟩
              · rw [e2] at e1
                obtain rfl := Option.some.inj e1
                exact ⟨by omega, fun h => by have := a4.good.lt _ h; omega, fun h => by have := hB4.lt _ h; omega⟩
          case measure => simp [intOf]; omega
        · have hways : (decide (j < ys.length) = false) ∨ (decide (j < ys.length) = true ∧ decide ((j : Int) < 40) = false) := by
            by_cases h1 : j < ys.length
            · exact .inr ⟨by simp [h1], by simp; omega⟩
            · exact .inl (by simp [h1])
          have hNs : N < 18446744073709551616 := by omega
          clear hlt
          rcases hways with t0 | ⟨t0, t1⟩
          all_goals
            go_wp2_with fail
            refine (advT B hbb.out N N _ hB (by omega) (by rw [nB.out]; omega)).mono ?_
            rintro e w4 ⟨v4, g4, xs4, B4, rfl, hO4, ht4, hl4, a4, n4, d4, hg4⟩
            have n4' := Lib.hid n4
            have hxs : xs4 = ps := TolD.unique (show TolD D N xs4 from dB.out ▸ ht4.d) ht.out
            have d4' := Lib.hid (show B4.due = lateD D N by rw [d4, dB.out]; rfl)
            have hbb4 := Lib.hid (a4.b.trans hbb.out)
            clear n4 d4 ht4
            subst hxs
            have hA4 := hA.keep a4.ext (fun q h1 h2 => hdis q h1 h2)
            have hO' := hO.keep a4.ext (fun q e1 e2 => (hg q e1).2.2 e2)
            obtain ⟨A6, c6, b6, o6, rfl, hr6, hgr6⟩ := hO4.read
            obtain ⟨A7, c7, b7, o7, rfl, hr7, hgr7⟩ := hO'.read
            have hext4 := hext.trans (F := NoB) a4.ext (fun q h1 h2 => by have := oB q h2; omega)
            go_wp2_with fail
            refine (lenG A' hba.out (n := (lateD D N).length) (by rw [dA.out]) _ hA4).mono ?_
            rintro e w5 ⟨rfl, rfl⟩
            go_wp2_with fail
            refine (lenG B4 hbb4.out (n := (lateD D N).length) (by rw [d4'.out]) _ a4.good).mono ?_
            rintro e w6 ⟨rfl, rfl⟩
            go_wp2_with fail
            refine (nowG A' hba.out nA.out _ hA4).mono ?_
            rintro e w7 ⟨rfl, rfl⟩
            go_wp2_with fail
            refine (nowG B4 hbb4.out n4'.out _ a4.good).mono ?_
            rintro e w8 ⟨rfl, rfl⟩
            go_wp2_with fail
            have hl6 := hr6.le
            have hm6 := hr6.max
            have hl7 := hr7.le
            have hm7 := hr7.max
            unfold maxLen at hm6 hm7
            go_loopw [14] (fun i wz => ∃ t : Nat, t ≤ xs4.length ∧ i = .int .i64 t ∧ Ext NoB w4 wz) (fun i _ => xs4.length - (intOf i).toNat)
            case atStart => exact ⟨0, Nat.zero_le _, rfl, Ext.refl _ _⟩
            case round =>
              obtain ⟨t, htl, rfl, hxz⟩ := hrel
              by_cases htt : t < xs4.length
              · have t2 : decide (t < xs4.length) = true := by simp [htt]
                obtain rfl := hr6.addr (by omega)
                obtain rfl := hr7.addr (by omega)
                have e60 := (hr6.keep hxz nb1).cell timerE_len t xs4[t] (List.getElem?_eq_getElem htt) 0 _ rfl
                have e61 := (hr6.keep hxz nb1).cell timerE_len t xs4[t] (List.getElem?_eq_getElem htt) 1 _ rfl
                have e70 := (hr7.keep hxz nb1).cell timerE_len t xs4[t] (List.getElem?_eq_getElem htt) 0 _ rfl
                have e71 := (hr7.keep hxz nb1).cell timerE_len t xs4[t] (List.getElem?_eq_getElem htt) 1 _ rfl
                rw [Nat.add_zero] at e60 e70
                generalize xs4[t] = u at *
                obtain ⟨ud, ui⟩ := u
                dsimp only at e60 e61 e70 e71
                go_wp2_with fail
                go_quiet (fail)
                go_wp2_with fail
                go_roundw
                case rel => exact ⟨t + 1, by omega, by go_num, hxz.drewN _⟩
                case measure => simp [intOf]; omega
              · have t2 : decide (t < xs4.length) = false := by simp [htt]
                go_wp2_with fail
                refine (awake_calls _).mono ?_
                rintro e w9 ⟨rfl, hx9⟩
                go_wp2_with fail
                go_ret
                exact ⟨rfl, (hext4.trans hxz (fun _ _ e => e)).trans hx9 (fun _ _ e => e)⟩

end Go.Proofs.Ytnobodgjabgikaa
