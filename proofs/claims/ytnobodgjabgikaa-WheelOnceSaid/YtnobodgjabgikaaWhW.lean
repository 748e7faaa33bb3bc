/- The law WheelOnce: the walk. -/
import Derived.Test.YtnobodgjabgikaaProg
import Derived.Test.YtnobodgjabgikaaWhV
namespace Go.Proofs.Ytnobodgjabgikaa
open Go.RowKit Go.Sort
set_option linter.unusedSimpArgs false
set_option linter.unusedVariables false

set_option maxRecDepth 100000 in
set_option maxHeartbeats 16000000 in
theorem onceW_walk (A0 : Option Addr) (c0 b0 o0 : Nat) (xs : List Nat) (A1 : Option Addr) (c1 b1 o1 : Nat) (ys : List Nat) (w : World) (hx : SlR w 1 natE A0 c0 b0 o0 xs) (hxb : ∀ n ∈ xs, n < 18446744073709551616) (hy : SlR w 1 natE A1 c1 b1 o1 ys) (hyb : ∀ n ∈ ys, n < 18446744073709551616) :
    Calls Try.prog 4 #[.slice A0 xs.length c0, .slice A1 ys.length c1] w fun e w' => e = .returned (.bool true) ∧ Ext NoB w w' := by
  have hxl := hx.le
  have hxm := hx.max
  have hyl := hy.le
  have hym := hy.max
  unfold maxLen at hxm hym
  obtain ⟨n, hn40, hnx, hn⟩ : ∃ n : Nat, n ≤ 50 ∧ n ≤ xs.length ∧ min (xs.length : Int) 50 = (n : Int) := ⟨min xs.length 50, by omega, by omega, by omega⟩
  have hxb' := Lib.hid hxb
  have hyb' := Lib.hid hyb
  clear hxb hyb
  go_enter Try.func4, Try.ntmps4
  go_wp2_with fail
  refine (newG 0 _ (by omega)).mono ?_
  rintro e w1 ⟨WA, rfl, hA, nA, dA, x1, oA⟩
  obtain ⟨ba, hba⟩ : ∃ b, WA.b = b := ⟨_, rfl⟩
  rw [hba]
  have hba' := Lib.hid hba
  have nA' := Lib.hid nA
  have dA' := Lib.hid dA
  clear hba nA dA
  have hb8 : 8 * n ≤ 281474976710656 := by omega
  have hb1' : 1 * n ≤ 281474976710656 := by omega
  have hbm : n ≤ maxLen := by unfold maxLen; omega
  go_wp2_with (first
    | (at_make; refine wpList_makeAr _ rfl _ _ _ rfl Try.underlying22 info_u64 rfl n rfl rfl hb8 hbm (fun w2 hV2 x2 => ?_))
    | (at_make; refine wpList_makeAr _ rfl _ _ _ rfl Try.underlying36 info_bool rfl n rfl rfl hb1' hbm (fun w3 hU3 x3 => ?_)))
  have z1 := x1.size
  have z2 := x2.size
  obtain ⟨gw, hgw⟩ : ∃ g, w1.heap.size = g := ⟨_, rfl⟩
  obtain ⟨gb, hgb⟩ : ∃ g, w2.heap.size = g := ⟨_, rfl⟩
  rw [hgw] at hV2 ⊢
  rw [hgb] at hU3 ⊢
  have hA3 := (hA.keep x2 (fun _ _ => nb)).keep x3 (fun _ _ => nb)
  have hV3 := hV2.keep x3 nb1
  have hx3 : Ext NoB w w3 := (x1.trans x2 (fun _ _ e => e)).trans x3 (fun _ _ e => e)
  have hgww : w.heap.size ≤ gw := by omega
  have hgbw : w.heap.size ≤ gb := by omega
  have hAw : ¬ WA.own gw := fun h => by have := hA.lt _ h; omega
  have hAb : ¬ WA.own gb := fun h => by have := hA.lt _ h; omega
  have hne : 0 < n → ¬ gw = gb := fun h => by have := hV2.lt h; omega
  have hD0 := Lib.hid (show DueIs WA.due n (fun _ => false) (fun _ => 0) by rw [dA'.out]; exact DueIs.nil _ _)
  clear z1 z2 hgw hgb hV2 hA x1 x2 x3 dA'
  go_wp2_with fail
  go_loopw [9] (fun i wr => ∃ (k : Nat) (A : Wh) (On : Nat → Bool) (Wt : Nat → Nat), k ≤ n ∧ i = .int .i64 k ∧ Good wr A ∧ Hid (A.b = ba) ∧ Hid (A.now = 0) ∧ Hid (DueIs A.due n On Wt) ∧ Hid (∀ j, On j = decide (j < k)) ∧ Hid (∀ j, j < k → Wt j < 1099511627776) ∧ Ar wr gw n (fun j => .int .u64 (Wt j)) ∧ Ar wr gb n (fun _ => .bool false) ∧ Ext NoB w wr ∧ (∀ q, A.own q → w.heap.size ≤ q) ∧ (0 < n → ¬ A.own gw ∧ ¬ A.own gb)) (fun i _ => n - (intOf i).toNat)
  case atStart => exact ⟨0, WA, fun _ => false, fun _ => 0, by omega, rfl, hA3, hba', nA', hD0, Lib.hid (fun j => by simp), Lib.hid (fun j h => by omega), hV3, hU3, hx3, oA, fun _ => ⟨hAw, hAb⟩⟩
  case round =>
    clear hA3 hba' nA' hD0 hV3 hU3 hx3 oA hAw hAb
    obtain ⟨k, A, On, Wt, hk, rfl, hA, hba, nA, hD, hOn, hWt, hV, hU, hext, oA, hAg⟩ := hrel
    have z0 := hext.size
    by_cases hlt : k < n
    · have t0 : decide ((k : Int) < n) = true := by simp; omega
      have t0' : decide (k < n) = true := by simp; omega
      obtain rfl := hx.addr (by omega)
      have hkx : k < xs.length := by omega
      have hck := (hx.keep hext nb1).natCell k hkx
      have hxk := hxb'.out xs[k] (List.getElem_mem hkx)
      have hand := and_low xs[k] 40 hxk (by decide)
      generalize xs[k] = u at *
      have hyb2 : u % 2 ^ 40 < 1099511627776 := Nat.mod_lt _ (by decide)
      generalize u % 2 ^ 40 = d at *
      simp only [show ((2 ^ 40 - 1 : Nat) : Int) = 1099511627775 from rfl] at hand
      have hgg := hne (by omega)
      have k1 := (hV k hlt).1
      have k2 := (hV k hlt).2
      have s1 := hV.set hlt (.int .u64 (d : Int))
      have x4 : Ext (fun q => q = gw) wr (wr.setCell ⟨gw, k, none⟩ (.int .u64 (d : Int))) := ext_cell _ _ _ _
      have s2 := hU.keep x4 (fun _ e => hgg e.symm)
      have k5 : (wr.setCell ⟨gw, k, none⟩ (.int .u64 (d : Int))).cell? ⟨gw, k, none⟩ = some (.int .u64 (d : Int)) := by simpa using (s1 k hlt).1
      have hA5 := hA.keep x4 (fun q h1 h2 => (hAg (by omega)).1 (h2 ▸ h1))
      have hext5 := hext.trans (F := NoB) x4 (fun q h1 h2 => by omega)
      have z5 := hext5.size
      have hgwl := s1.lt (by omega)
      have hgbl := s2.lt (by omega)
      have hOk := hOn.out k
      rw [show decide (k < k) = false by simp] at hOk
      have hDk := Lib.hid (hD.out.none hOk)
      have hDa := Lib.hid (hD.out.add (d := d) hlt hOk)
      have hlen := hD.out.len
      clear hOk hV hU x4 hext hA
      go_wp2_with fail
      clear k1 k2 k5 hck hand
      generalize wr.setCell ⟨gw, k, none⟩ (.int .u64 (d : Int)) = w5 at *
      refine (addOK A hba.out ((k : Int) + 1) d _ hA5 (by omega) (by omega) hDk.out (by omega)).mono ?_
      rintro e w6 ⟨A6, rfl, a6, n6, d6⟩
      have n6' := Lib.hid (n6.trans nA.out)
      have d6' := Lib.hid (show DueIs A6.due n _ _ by rw [d6]; exact hDa.out)
      have hba6 := Lib.hid (a6.b.trans hba.out)
      clear n6 d6
      have o6 : ∀ q, A6.own q → w.heap.size ≤ q := fun q hq => by
        rcases a6.own q hq with h | h
        · exact oA q h
        · omega
      have hAg6 : ¬ A6.own gw ∧ ¬ A6.own gb := ⟨fun h => by
        rcases a6.own _ h with h | h
        · exact (hAg (by omega)).1 h
        · omega, fun h => by
        rcases a6.own _ h with h | h
        · exact (hAg (by omega)).2 h
        · omega⟩
      go_wp2_with fail
      go_roundw
      case rel =>
        refine ⟨k + 1, A6, _, _, by omega, by go_num, a6.good, hba6, n6', d6', Lib.hid (fun j => ?_), Lib.hid (fun j hj => ?_), (s1.keep a6.ext (fun _ => (hAg (by omega)).1)).congr (fun j hj => ?_), s2.keep a6.ext (fun _ => (hAg (by omega)).2), hext5.trans (F := NoB) a6.ext (fun q h1 h2 => by have := oA q h2; omega), o6, fun _ => hAg6⟩
        · by_cases hjk : j = k
          · simp [hjk]
          · simp only [if_neg hjk]
            rw [hOn.out j, Bool.eq_iff_iff, decide_eq_true_iff, decide_eq_true_iff]; omega
        · by_cases hjk : j = k
          · simp only [if_pos hjk]; exact hyb2
          · simp only [if_neg hjk]; exact hWt.out j (by omega)
        · by_cases hjk : j = k <;> simp [hjk]
      case measure => simp [intOf]; omega
    · have t0 : decide ((k : Int) < n) = false := by simp; omega
      have t0' : decide (k < n) = false := by simp; omega
      obtain rfl : k = n := by omega
      have hD1 := Lib.hid (hD.out.congr (On' := fun j => !(fun _ => false) j) (Wt' := Wt) (fun j hj => by rw [hOn.out j]; simp [hj]) (fun _ _ _ => rfl))
      clear hOn hD
      go_wp2_with fail
      go_loopw [10, 11] (fun now i wr => ∃ (j N : Nat) (A : Wh) (T : Nat → Bool), j ≤ ys.length + 1 ∧ j ≤ 41 ∧ i = .int .i64 j ∧ now = .int .u64 N ∧ N ≤ 1125899906842624 ∧ Hid (j ≤ ys.length → j ≤ 40 → N ≤ j * 68719476736) ∧ Good wr A ∧ Hid (A.b = ba) ∧ Hid (A.now = N) ∧ Hid (DueIs A.due k (fun i => !T i) Wt) ∧ Hid (0 < j → ∀ i, i < k → T i = false → N < Wt i) ∧ Hid (ys.length < j ∨ 40 < j → ∀ i, i < k → T i = true) ∧
          Ar wr gw k (fun j => .int .u64 (Wt j)) ∧ Ar wr gb k (fun j => .bool (T j)) ∧ Ext NoB w wr ∧ (∀ q, A.own q → w.heap.size ≤ q) ∧ (0 < k → ¬ A.own gw ∧ ¬ A.own gb)) (fun _ i _ => ys.length + 1 - (intOf i).toNat)
      case atStart => exact ⟨0, 0, A, fun _ => false, by omega, by omega, rfl, rfl, by omega, Lib.hid (fun _ _ => Nat.zero_le _), hA, hba, nA, hD1, Lib.hid (fun h => by omega), Lib.hid (fun h => by omega), hV, hU, hext, oA, hAg⟩
      case round =>
        clear hA hba nA hD1 hV hU hext oA hAg
        obtain ⟨j, N, A, T, hj1, hj2, rfl, rfl, hN, hNj, hA, hba, nA, hD, hlate, hfin, hV, hU, hext, oA, hAg⟩ := hrel
        have z0 := hext.size
        by_cases hin : j ≤ ys.length ∧ j ≤ 40
        · obtain ⟨hj3, hj4⟩ := hin
          have t0 : decide (j ≤ ys.length) = true := by simp; omega
          have t0' : decide ((j : Int) ≤ ys.length) = true := by simp; omega
          have t1 : decide ((j : Int) ≤ 40) = true := by simp; omega
          have t1' : decide (j ≤ 40) = true := by simp; omega
          have hNj' := hNj.out hj3 hj4
          by_cases hst : j < ys.length ∧ j < 40
          · obtain ⟨hj5, hj6⟩ := hst
            have t2 : decide (j < ys.length) = true := by simp; omega
            have t2' : decide ((j : Int) < ys.length) = true := by simp; omega
            have t3 : decide ((j : Int) < 40) = true := by simp; omega
            have t3' : decide (j < 40) = true := by simp; omega
            obtain rfl := hy.addr (by omega)
            have hck := (hy.keep hext nb1).natCell j hj5
            have hyj := hyb'.out ys[j] (List.getElem_mem hj5)
            have hand := and_low ys[j] 36 hyj (by decide)
            generalize ys[j] = u at *
            have hyb2 : u % 2 ^ 36 < 68719476736 := Nat.mod_lt _ (by decide)
            generalize u % 2 ^ 36 = y at *
            simp only [show ((2 ^ 36 - 1 : Nat) : Int) = 68719476735 from rfl] at hand
            obtain ⟨M, hM⟩ : ∃ M : Nat, (N : Int) + (y : Int) = (M : Int) := ⟨N + y, by omega⟩
            have hNM : N ≤ M := by omega
            have hM2 : M ≤ (j + 1) * 68719476736 := by omega
            have hMb : M ≤ 1125899906842624 := by omega
            go_wp2_with fail
            clear hck hand
            have hNext := Lib.hid (show j + 1 ≤ ys.length → j + 1 ≤ 40 → M ≤ (j + 1) * 68719476736 from fun _ _ => hM2)
            have hall := Lib.hid (show ys.length < j + 1 ∨ 40 < j + 1 → ∀ i, i < k → T i = false → Wt i ≤ M from fun h => by omega)
            as_aux_lemma =>
              refine (advT A hba.out M M _ hA (by omega) (by rw [nA.out]; omega)).mono ?_
              rintro e w6 ⟨v6, g6, ls, A6, rfl, hO6, ht6, hl6, a6, n6, d6, hg6⟩
              have hD6 := Lib.hid (show DueIs A6.due k _ _ by rw [d6]; exact hD.out.late M)
              have ht := Lib.hid (fun t => hD.out.told ht6.d (t := t))
              have hls := Lib.hid ht6.srt
              have hba6 := Lib.hid (a6.b.trans hba.out)
              have n6' := Lib.hid n6
              have hext6 := hext.trans (F := NoB) a6.ext (fun q h1 h2 => by have := oA q h2; omega)
              have hV6 := hV.keep a6.ext (fun h => (hAg h).1)
              have hU6 := hU.keep a6.ext (fun h => (hAg h).2)
              have hAg6 : 0 < k → ¬ A6.own gw ∧ ¬ A6.own gb := fun hp => ⟨fun h => by
                rcases a6.own _ h with h | h
                · exact (hAg hp).1 h
                · have := hV.lt hp; omega, fun h => by
                rcases a6.own _ h with h | h
                · exact (hAg hp).2 h
                · have := hU.lt hp; omega⟩
              have hgU : ∀ hp : 0 < k, gb < wr.heap.size := fun hp => hU.lt hp
              obtain ⟨A7, c7, b7, o7, rfl, hr7, hgr7⟩ := hO6.read
              have hb7 : 0 < ls.length → wr.heap.size ≤ b7 := fun hp => (hg6 b7 (hgr7 hp)).1
              have hl7 := hr7.le
              have hm7 := hr7.max
              unfold maxLen at hm7
              have good6 := a6.good
              have oo6 : ∀ q, A6.own q → w.heap.size ≤ q := fun q hq => by
                rcases a6.own q hq with h | h
                · exact oA q h
                · omega
              clear ht6 n6 d6 hO6 hg6 hA hba nA hD hV hU hext oA hAg a6 hgr7 hfin
              go_wp2_with fail
              go_loopw [14] (fun i wz => ∃ (t : Nat) (Uf : Nat → Bool), t ≤ ls.length ∧ i = .int .i64 t ∧ Ar wz gb k (fun j => .bool (Uf j)) ∧ Hid (∀ j, j < k → Uf j = (T j || decide ((((Wt j : Int), (j : Int) + 1) : Tm) ∈ ls.take t))) ∧ Ext (fun q => q = gb ∧ 0 < k) w6 wz) (fun i _ => ls.length - (intOf i).toNat)
              case atStart => exact ⟨0, T, Nat.zero_le _, rfl, hU6, Lib.hid (fun j _ => by simp), Ext.refl _ _⟩
              case round =>
                obtain ⟨t, Uf, htl, rfl, hU, hUf, hxz⟩ := hrel
                by_cases htt : t < ls.length
                · have t5 : decide (t < ls.length) = true := by simp [htt]
                  have t5' : decide ((t : Int) < ls.length) = true := by simp; omega
                  obtain rfl := hr7.addr (by omega)
                  have hb7' := hb7 (by omega)
                  obtain ⟨i0, hjk, hju, hjo, hjw⟩ := (ht.out ls[t]).1 (List.getElem_mem htt)
                  have hgb1 := hgU (by omega)
                  have hr7z := hr7.keep hxz (fun _ e => by omega)
                  have e70 := hr7z.cell timerE_len t ls[t] (List.getElem?_eq_getElem htt) 0 _ rfl
                  have e71 := hr7z.cell timerE_len t ls[t] (List.getElem?_eq_getElem htt) 1 _ rfl
                  rw [Nat.add_zero] at e70
                  have htk := Lib.hid (show ls.take (t + 1) = ls.take t ++ [ls[t]] from List.take_succ_eq_append_getElem htt)
                  have hnt := Lib.hid (show ls[t] ∉ ls.take t from fun h => by
                    obtain ⟨j', hj', he⟩ := List.mem_iff_getElem.1 h
                    rw [List.length_take] at hj'
                    rw [List.getElem_take] at he
                    have := nodup_getElem?_inj (tlt_nodup hls.out) (List.getElem?_eq_getElem (show j' < ls.length by omega)) (by rw [he]; exact List.getElem?_eq_getElem htt)
                    omega)
                  have hpre := Lib.hid (show ∀ t1 (h : t1 < t), ∃ ip : Nat, ip < k ∧ ls[t1]'(by omega) = ((Wt ip : Int), (ip : Int) + 1) ∧ tlt (ls[t1]'(by omega)) ls[t] from fun t1 h => by
                    obtain ⟨ip, h1, h2, _, _⟩ := (ht.out (ls[t1]'(by omega))).1 (List.getElem_mem _)
                    exact ⟨ip, h1, h2, List.pairwise_iff_getElem.1 hls.out t1 t (by omega) htt h⟩)
                  have hTf : T i0 = false := by cases h : T i0 <;> simp_all
                  rw [hju] at e70 e71 htk hnt hpre
                  dsimp only at e70 e71
                  have hUj : Uf i0 = false := by rw [hUf.out i0 hjk, hTf]; simpa using hnt.out
                  have hVz := hV6.keep hxz (fun hp e => hne (by omega) e.1)
                  have e1 := (hVz i0 hjk).1
                  have e2 := (hU i0 hjk).1
                  have e3 := (hU i0 hjk).2
                  dsimp only at e1 e2
                  rw [hUj] at e2
                  have hlt0 := Lib.hid (fun h : 0 < j => hlate.out h i0 hjk hTf)
                  generalize hwv : Wt i0 = wv at *
                  have hwv' := Lib.hid hwv
                  have hju' := Lib.hid hju
                  have hTf' := Lib.hid hTf
                  have hUj' := Lib.hid hUj
                  clear hwv hju hTf hjo hUj
                  have i1 : decide ((i0 : Int) + 1 < 1) = false := by simp; omega
                  have i2 : decide ((k : Int) < (i0 : Int) + 1) = false := by simp; omega
                  have i3 : decide (M < wv) = false := by simp; omega
                  have i3' : decide ((M : Int) < (wv : Int)) = false := by simp; omega
                  have hfin6 : ∀ wz, Ext NoB wr wz → ∃ Uf' : Nat → Bool, Ar (wz.setCell ⟨gb, i0, none⟩ (.bool true)) gb k (fun j => .bool (Uf' j)) ∧ (∀ j, j < k → Uf' j = (T j || decide ((((Wt j : Int), (j : Int) + 1) : Tm) ∈ ls.take (t + 1)))) ∧ Ext (fun q => q = gb ∧ 0 < k) w6 (wz.setCell ⟨gb, i0, none⟩ (.bool true)) := fun wz hz => by
                    refine ⟨fun i => if i = i0 then true else Uf i, ((hU.keep hz nb1).set hjk (.bool true)).congr (fun i hi => ?_), fun i hi => ?_, (hxz.trans (F := fun q => q = gb ∧ 0 < k) hz (fun _ _ e => e.elim)).trans (ext_cell _ _ _ _) (fun q h1 h2 => ⟨h2, by omega⟩)⟩
                    · by_cases hij : i = i0 <;> simp [hij]
                    · rw [htk.out]
                      by_cases hij : i = i0
                      · subst hij
                        rw [hwv'.out]; simp
                      · simp only [if_neg hij]
                        rw [hUf.out i hi]
                        have h1 : ¬ ((i : Int) = (i0 : Int)) := by omega
                        simp [h1]
                  have hfin6' := Lib.hid hfin6
                  clear hfin6
                  have hcase : (decide (wv ≤ N) = false ∧ decide ((wv : Int) ≤ (N : Int)) = false) ∨ ((decide (wv ≤ N) = true ∧ decide ((wv : Int) ≤ (N : Int)) = true) ∧ decide (0 < j) = false ∧ decide (0 < (j : Int)) = false) := by
                    by_cases h : wv ≤ N
                    · have : ¬ 0 < j := fun h0 => by have := hlt0.out h0; omega
                      exact .inr ⟨⟨by simp; omega, by simp; omega⟩, by simp; omega, by simp; omega⟩
                    · exact .inl ⟨by simp; omega, by simp; omega⟩
                  by_cases ht0 : t = 0
                  · have j0 : decide (0 < t) = false := by simp; omega
                    have j0' : decide (0 < (t : Int)) = false := by simp; omega
                    have ht0' := Lib.hid ht0
                    clear ht0
                    rcases hcase with ⟨i4, i4'⟩ | ⟨⟨i4, i4'⟩, i5, i5'⟩
                    all_goals
                      go_wp2_with fail
                      go_quiet (fail)
                      go_wp2_with fail
                      go_quiet (fail)
                      go_wp2_with fail
                      go_roundw
                      case rel =>
                        obtain ⟨Uf', h1, h2, h3⟩ := hfin6'.out _ ((Ext.refl NoB _).drewN _)
                        exact ⟨t + 1, Uf', by omega, by go_num, h1, Lib.hid h2, h3⟩
                      case measure => simp [intOf]; omega
                  · have j0 : decide (0 < t) = true := by simp; omega
                    have j0' : decide (0 < (t : Int)) = true := by simp; omega
                    obtain ⟨t1, ht1⟩ : ∃ t1 : Nat, (t : Int) - 1 = (t1 : Int) := ⟨t - 1, by omega⟩
                    have ht1' : t1 < t := by omega
                    have ht1l : t1 < ls.length := by omega
                    obtain ⟨ip, hipk, hipu, hipt⟩ := hpre.out t1 ht1'
                    have p0 := hr7z.cell timerE_len t1 (ls[t1]'ht1l) (List.getElem?_eq_getElem ht1l) 0 _ rfl
                    have p1 := hr7z.cell timerE_len t1 (ls[t1]'ht1l) (List.getElem?_eq_getElem ht1l) 1 _ rfl
                    rw [Nat.add_zero] at p0
                    rw [hipu] at p0 p1 hipt
                    dsimp only at p0 p1
                    generalize Wt ip = pv at *
                    have hpc : (pv : Int) < (wv : Int) ∨ (pv = wv ∧ ip < i0) := by
                      rcases hipt with h | h
                      · exact .inl h
                      · have h1 : (pv : Int) = (wv : Int) := h.1
                        have h2 : (ip : Int) + 1 < (i0 : Int) + 1 := h.2
                        exact .inr ⟨by omega, by omega⟩
                    clear hipt hipu
                    rcases hpc with hpc | ⟨rfl, hpc⟩
                    · have j1 : decide (wv < pv) = false := by simp; omega
                      have j1' : decide ((wv : Int) < (pv : Int)) = false := by simp; omega
                      have j2 : ((wv : Int) == (pv : Int)) = false := by simp; omega
                      rcases hcase with ⟨i4, i4'⟩ | ⟨⟨i4, i4'⟩, i5, i5'⟩
                      all_goals
                        go_wp2_with fail
                        go_quiet (fail)
                        go_wp2_with fail
                        go_quiet (fail)
                        go_wp2_with fail
                        go_roundw
                        case rel =>
                          obtain ⟨Uf', h1, h2, h3⟩ := hfin6'.out _ ((Ext.refl NoB _).drewN _)
                          exact ⟨t + 1, Uf', by omega, by go_num, h1, Lib.hid h2, h3⟩
                        case measure => simp [intOf]; omega
                    · have j1 : decide ((i0 : Int) + 1 ≤ (ip : Int) + 1) = false := by simp; omega
                      have j1' : decide ((i0 : Int) ≤ (ip : Int)) = false := by simp; omega
                      have j2 : decide (i0 ≤ ip) = false := by simp; omega
                      rcases hcase with ⟨i4, i4'⟩ | ⟨⟨i4, i4'⟩, i5, i5'⟩
                      all_goals
                        go_wp2_with fail
                        go_quiet (fail)
                        go_wp2_with fail
                        go_quiet (fail)
                        go_wp2_with fail
                        go_roundw
                        case rel =>
                          obtain ⟨Uf', h1, h2, h3⟩ := hfin6'.out _ ((Ext.refl NoB _).drewN _)
                          exact ⟨t + 1, Uf', by omega, by go_num, h1, Lib.hid h2, h3⟩
                        case measure => simp [intOf]; omega
                · have t5 : decide (t < ls.length) = false := by simp [htt]
                  have t5' : decide ((t : Int) < ls.length) = false := by simp; omega
                  have hUl := Lib.hid (show ∀ i, i < k → Uf i = (T i || decide (Wt i ≤ M)) from fun i hi => by
                    rw [hUf.out i hi, List.take_of_length_le (by omega)]
                    cases h : T i with
                    | true => rfl
                    | false =>
                      simp only [Bool.false_or]
                      rw [Bool.eq_iff_iff, decide_eq_true_iff, decide_eq_true_iff]
                      constructor
                      · intro h1
                        obtain ⟨i', _, h3, _, h5⟩ := (ht.out _).1 h1
                        have h6 := (Prod.mk.inj h3).1
                        omega
                      · intro h1
                        exact (ht.out _).2 ⟨i, hi, rfl, by simp [h], h1⟩)
                  have gz := good6.keep hxz (fun q h1 h2 => (hAg6 h2.2).2 (h2.1 ▸ h1))
                  have hVz := hV6.keep hxz (fun hp e => hne hp e.1)
                  have hextz := hext6.trans (F := NoB) hxz (fun q h1 h2 => by omega)
                  clear hr7 hUf
                  go_wp2_with fail
                  go_roundw
                  case rel =>
                    refine ⟨j + 1, M, A6, Uf, by omega, by omega, by go_num, rfl, hMb, hNext, gz, hba6, n6', Lib.hid (hD6.out.congr (fun i hi => ?_) (fun _ _ _ => rfl)), Lib.hid (fun _ i hi h => ?_), Lib.hid (fun h i hi => ?_), hVz, hU, hextz, oo6, hAg6⟩
                    · rw [hUl.out i hi]
                      by_cases h : Wt i ≤ M
                      · have : ¬ M < Wt i := by omega
                        simp [h, this]
                      · have : M < Wt i := by omega
                        simp [h, this]
                    · rw [hUl.out i hi] at h
                      simp at h; omega
                    · rw [hUl.out i hi]
                      cases hT : T i with
                      | true => rfl
                      | false => simp; exact hall.out h i hi hT
                  case measure => simp [intOf]; omega
          · have hways : (decide (j < ys.length) = false ∧ decide ((j : Int) < ys.length) = false) ∨ ((decide (j < ys.length) = true ∧ decide ((j : Int) < ys.length) = true) ∧ decide (j < 40) = false ∧ decide ((j : Int) < 40) = false) := by
              by_cases h1 : j < ys.length
              · exact .inr ⟨⟨by simp; omega, by simp; omega⟩, by simp; omega, by simp; omega⟩
              · exact .inl ⟨by simp; omega, by simp; omega⟩
            have hNext := Lib.hid (show j + 1 ≤ ys.length → j + 1 ≤ 40 → 1125899906842624 ≤ (j + 1) * 68719476736 from fun h1 h2 => absurd ⟨by omega, by omega⟩ hst)
            have hall := Lib.hid (show ys.length < j + 1 ∨ 40 < j + 1 → ∀ i, i < k → T i = false → Wt i ≤ 1125899906842624 from fun _ i hi _ => by have := hWt.out i hi; omega)
            have hNM : N ≤ 1125899906842624 := hN
            have hMb : 1125899906842624 ≤ 1125899906842624 := by omega
            clear hst
            rcases hways with ⟨t2, t2'⟩ | ⟨⟨t2, t2'⟩, t3, t3'⟩
            all_goals
              go_wp2_with fail
              as_aux_lemma =>
                refine (advT A hba.out 1125899906842624 1125899906842624 _ hA (by omega) (by rw [nA.out]; omega)).mono ?_
                rintro e w6 ⟨v6, g6, ls, A6, rfl, hO6, ht6, hl6, a6, n6, d6, hg6⟩
                have hD6 := Lib.hid (show DueIs A6.due k _ _ by rw [d6]; exact hD.out.late 1125899906842624)
                have ht := Lib.hid (fun t => hD.out.told ht6.d (t := t))
                have hls := Lib.hid ht6.srt
                have hba6 := Lib.hid (a6.b.trans hba.out)
                have n6' := Lib.hid n6
                have hext6 := hext.trans (F := NoB) a6.ext (fun q h1 h2 => by have := oA q h2; omega)
                have hV6 := hV.keep a6.ext (fun h => (hAg h).1)
                have hU6 := hU.keep a6.ext (fun h => (hAg h).2)
                have hAg6 : 0 < k → ¬ A6.own gw ∧ ¬ A6.own gb := fun hp => ⟨fun h => by
                  rcases a6.own _ h with h | h
                  · exact (hAg hp).1 h
                  · have := hV.lt hp; omega, fun h => by
                  rcases a6.own _ h with h | h
                  · exact (hAg hp).2 h
                  · have := hU.lt hp; omega⟩
                have hgU : ∀ hp : 0 < k, gb < wr.heap.size := fun hp => hU.lt hp
                obtain ⟨A7, c7, b7, o7, rfl, hr7, hgr7⟩ := hO6.read
                have hb7 : 0 < ls.length → wr.heap.size ≤ b7 := fun hp => (hg6 b7 (hgr7 hp)).1
                have hl7 := hr7.le
                have hm7 := hr7.max
                unfold maxLen at hm7
                have good6 := a6.good
                have oo6 : ∀ q, A6.own q → w.heap.size ≤ q := fun q hq => by
                  rcases a6.own q hq with h | h
                  · exact oA q h
                  · omega
                clear ht6 n6 d6 hO6 hg6 hA hba nA hD hV hU hext oA hAg a6 hgr7 hfin
                go_wp2_with fail
                go_loopw [14] (fun i wz => ∃ (t : Nat) (Uf : Nat → Bool), t ≤ ls.length ∧ i = .int .i64 t ∧ Ar wz gb k (fun j => .bool (Uf j)) ∧ Hid (∀ j, j < k → Uf j = (T j || decide ((((Wt j : Int), (j : Int) + 1) : Tm) ∈ ls.take t))) ∧ Ext (fun q => q = gb ∧ 0 < k) w6 wz) (fun i _ => ls.length - (intOf i).toNat)
                case atStart => exact ⟨0, T, Nat.zero_le _, rfl, hU6, Lib.hid (fun j _ => by simp), Ext.refl _ _⟩
                case round =>
                  obtain ⟨t, Uf, htl, rfl, hU, hUf, hxz⟩ := hrel
                  by_cases htt : t < ls.length
                  · have t5 : decide (t < ls.length) = true := by simp [htt]
                    have t5' : decide ((t : Int) < ls.length) = true := by simp; omega
                    obtain rfl := hr7.addr (by omega)
                    have hb7' := hb7 (by omega)
                    obtain ⟨i0, hjk, hju, hjo, hjw⟩ := (ht.out ls[t]).1 (List.getElem_mem htt)
                    have hgb1 := hgU (by omega)
                    have hr7z := hr7.keep hxz (fun _ e => by omega)
                    have e70 := hr7z.cell timerE_len t ls[t] (List.getElem?_eq_getElem htt) 0 _ rfl
                    have e71 := hr7z.cell timerE_len t ls[t] (List.getElem?_eq_getElem htt) 1 _ rfl
                    rw [Nat.add_zero] at e70
                    have htk := Lib.hid (show ls.take (t + 1) = ls.take t ++ [ls[t]] from List.take_succ_eq_append_getElem htt)
                    have hnt := Lib.hid (show ls[t] ∉ ls.take t from fun h => by
                      obtain ⟨j', hj', he⟩ := List.mem_iff_getElem.1 h
                      rw [List.length_take] at hj'
                      rw [List.getElem_take] at he
                      have := nodup_getElem?_inj (tlt_nodup hls.out) (List.getElem?_eq_getElem (show j' < ls.length by omega)) (by rw [he]; exact List.getElem?_eq_getElem htt)
                      omega)
                    have hpre := Lib.hid (show ∀ t1 (h : t1 < t), ∃ ip : Nat, ip < k ∧ ls[t1]'(by omega) = ((Wt ip : Int), (ip : Int) + 1) ∧ tlt (ls[t1]'(by omega)) ls[t] from fun t1 h => by
                      obtain ⟨ip, h1, h2, _, _⟩ := (ht.out (ls[t1]'(by omega))).1 (List.getElem_mem _)
                      exact ⟨ip, h1, h2, List.pairwise_iff_getElem.1 hls.out t1 t (by omega) htt h⟩)
                    have hTf : T i0 = false := by cases h : T i0 <;> simp_all
                    rw [hju] at e70 e71 htk hnt hpre
                    dsimp only at e70 e71
                    have hUj : Uf i0 = false := by rw [hUf.out i0 hjk, hTf]; simpa using hnt.out
                    have hVz := hV6.keep hxz (fun hp e => hne (by omega) e.1)
                    have e1 := (hVz i0 hjk).1
                    have e2 := (hU i0 hjk).1
                    have e3 := (hU i0 hjk).2
                    dsimp only at e1 e2
                    rw [hUj] at e2
                    have hlt0 := Lib.hid (fun h : 0 < j => hlate.out h i0 hjk hTf)
                    generalize hwv : Wt i0 = wv at *
                    have hwv' := Lib.hid hwv
                    have hju' := Lib.hid hju
                    have hTf' := Lib.hid hTf
                    have hUj' := Lib.hid hUj
                    clear hwv hju hTf hjo hUj
                    have i1 : decide ((i0 : Int) + 1 < 1) = false := by simp; omega
                    have i2 : decide ((k : Int) < (i0 : Int) + 1) = false := by simp; omega
                    have i3 : decide (1125899906842624 < wv) = false := by simp; omega
                    have i3' : decide ((1125899906842624 : Int) < (wv : Int)) = false := by simp; omega
                    have hfin6 : ∀ wz, Ext NoB wr wz → ∃ Uf' : Nat → Bool, Ar (wz.setCell ⟨gb, i0, none⟩ (.bool true)) gb k (fun j => .bool (Uf' j)) ∧ (∀ j, j < k → Uf' j = (T j || decide ((((Wt j : Int), (j : Int) + 1) : Tm) ∈ ls.take (t + 1)))) ∧ Ext (fun q => q = gb ∧ 0 < k) w6 (wz.setCell ⟨gb, i0, none⟩ (.bool true)) := fun wz hz => by
                      refine ⟨fun i => if i = i0 then true else Uf i, ((hU.keep hz nb1).set hjk (.bool true)).congr (fun i hi => ?_), fun i hi => ?_, (hxz.trans (F := fun q => q = gb ∧ 0 < k) hz (fun _ _ e => e.elim)).trans (ext_cell _ _ _ _) (fun q h1 h2 => ⟨h2, by omega⟩)⟩
                      · by_cases hij : i = i0 <;> simp [hij]
                      · rw [htk.out]
                        by_cases hij : i = i0
                        · subst hij
                          rw [hwv'.out]; simp
                        · simp only [if_neg hij]
                          rw [hUf.out i hi]
                          have h1 : ¬ ((i : Int) = (i0 : Int)) := by omega
                          simp [h1]
                    have hfin6' := Lib.hid hfin6
                    clear hfin6
                    have hcase : (decide (wv ≤ N) = false ∧ decide ((wv : Int) ≤ (N : Int)) = false) ∨ ((decide (wv ≤ N) = true ∧ decide ((wv : Int) ≤ (N : Int)) = true) ∧ decide (0 < j) = false ∧ decide (0 < (j : Int)) = false) := by
                      by_cases h : wv ≤ N
                      · have : ¬ 0 < j := fun h0 => by have := hlt0.out h0; omega
                        exact .inr ⟨⟨by simp; omega, by simp; omega⟩, by simp; omega, by simp; omega⟩
                      · exact .inl ⟨by simp; omega, by simp; omega⟩
                    by_cases ht0 : t = 0
                    · have j0 : decide (0 < t) = false := by simp; omega
                      have j0' : decide (0 < (t : Int)) = false := by simp; omega
                      have ht0' := Lib.hid ht0
                      clear ht0
                      rcases hcase with ⟨i4, i4'⟩ | ⟨⟨i4, i4'⟩, i5, i5'⟩
                      all_goals
                        go_wp2_with fail
                        go_quiet (fail)
                        go_wp2_with fail
                        go_quiet (fail)
                        go_wp2_with fail
                        go_roundw
                        case rel =>
                          obtain ⟨Uf', h1, h2, h3⟩ := hfin6'.out _ ((Ext.refl NoB _).drewN _)
                          exact ⟨t + 1, Uf', by omega, by go_num, h1, Lib.hid h2, h3⟩
                        case measure => simp [intOf]; omega
                    · have j0 : decide (0 < t) = true := by simp; omega
                      have j0' : decide (0 < (t : Int)) = true := by simp; omega
                      obtain ⟨t1, ht1⟩ : ∃ t1 : Nat, (t : Int) - 1 = (t1 : Int) := ⟨t - 1, by omega⟩
                      have ht1' : t1 < t := by omega
                      have ht1l : t1 < ls.length := by omega
                      obtain ⟨ip, hipk, hipu, hipt⟩ := hpre.out t1 ht1'
                      have p0 := hr7z.cell timerE_len t1 (ls[t1]'ht1l) (List.getElem?_eq_getElem ht1l) 0 _ rfl
                      have p1 := hr7z.cell timerE_len t1 (ls[t1]'ht1l) (List.getElem?_eq_getElem ht1l) 1 _ rfl
                      rw [Nat.add_zero] at p0
                      rw [hipu] at p0 p1 hipt
                      dsimp only at p0 p1
                      generalize Wt ip = pv at *
                      have hpc : (pv : Int) < (wv : Int) ∨ (pv = wv ∧ ip < i0) := by
                        rcases hipt with h | h
                        · exact .inl h
                        · have h1 : (pv : Int) = (wv : Int) := h.1
                          have h2 : (ip : Int) + 1 < (i0 : Int) + 1 := h.2
                          exact .inr ⟨by omega, by omega⟩
                      clear hipt hipu
                      rcases hpc with hpc | ⟨rfl, hpc⟩
                      · have j1 : decide (wv < pv) = false := by simp; omega
                        have j1' : decide ((wv : Int) < (pv : Int)) = false := by simp; omega
                        have j2 : ((wv : Int) == (pv : Int)) = false := by simp; omega
                        rcases hcase with ⟨i4, i4'⟩ | ⟨⟨i4, i4'⟩, i5, i5'⟩
                        all_goals
                          go_wp2_with fail
                          go_quiet (fail)
                          go_wp2_with fail
                          go_quiet (fail)
                          go_wp2_with fail
                          go_roundw
                          case rel =>
                            obtain ⟨Uf', h1, h2, h3⟩ := hfin6'.out _ ((Ext.refl NoB _).drewN _)
                            exact ⟨t + 1, Uf', by omega, by go_num, h1, Lib.hid h2, h3⟩
                          case measure => simp [intOf]; omega
                      · have j1 : decide ((i0 : Int) + 1 ≤ (ip : Int) + 1) = false := by simp; omega
                        have j1' : decide ((i0 : Int) ≤ (ip : Int)) = false := by simp; omega
                        have j2 : decide (i0 ≤ ip) = false := by simp; omega
                        rcases hcase with ⟨i4, i4'⟩ | ⟨⟨i4, i4'⟩, i5, i5'⟩
                        all_goals
                          go_wp2_with fail
                          go_quiet (fail)
                          go_wp2_with fail
                          go_quiet (fail)
                          go_wp2_with fail
                          go_roundw
                          case rel =>
                            obtain ⟨Uf', h1, h2, h3⟩ := hfin6'.out _ ((Ext.refl NoB _).drewN _)
                            exact ⟨t + 1, Uf', by omega, by go_num, h1, Lib.hid h2, h3⟩
                          case measure => simp [intOf]; omega
                  · have t5 : decide (t < ls.length) = false := by simp [htt]
                    have t5' : decide ((t : Int) < ls.length) = false := by simp; omega
                    have hUl := Lib.hid (show ∀ i, i < k → Uf i = (T i || decide (Wt i ≤ 1125899906842624)) from fun i hi => by
                      rw [hUf.out i hi, List.take_of_length_le (by omega)]
                      cases h : T i with
                      | true => rfl
                      | false =>
                        simp only [Bool.false_or]
                        rw [Bool.eq_iff_iff, decide_eq_true_iff, decide_eq_true_iff]
                        constructor
                        · intro h1
                          obtain ⟨i', _, h3, _, h5⟩ := (ht.out _).1 h1
                          have h6 := (Prod.mk.inj h3).1
                          omega
                        · intro h1
                          exact (ht.out _).2 ⟨i, hi, rfl, by simp [h], h1⟩)
                    have gz := good6.keep hxz (fun q h1 h2 => (hAg6 h2.2).2 (h2.1 ▸ h1))
                    have hVz := hV6.keep hxz (fun hp e => hne hp e.1)
                    have hextz := hext6.trans (F := NoB) hxz (fun q h1 h2 => by omega)
                    clear hr7 hUf
                    go_wp2_with fail
                    go_roundw
                    case rel =>
                      refine ⟨j + 1, 1125899906842624, A6, Uf, by omega, by omega, by go_num, rfl, hMb, hNext, gz, hba6, n6', Lib.hid (hD6.out.congr (fun i hi => ?_) (fun _ _ _ => rfl)), Lib.hid (fun _ i hi h => ?_), Lib.hid (fun h i hi => ?_), hVz, hU, hextz, oo6, hAg6⟩
                      · rw [hUl.out i hi]
                        by_cases h : Wt i ≤ 1125899906842624
                        · have : ¬ 1125899906842624 < Wt i := by omega
                          simp [h, this]
                        · have : 1125899906842624 < Wt i := by omega
                          simp [h, this]
                      · rw [hUl.out i hi] at h
                        simp at h; omega
                      · rw [hUl.out i hi]
                        cases hT : T i with
                        | true => rfl
                        | false => simp; exact hall.out h i hi hT
                    case measure => simp [intOf]; omega
        · have hways : (decide (j ≤ ys.length) = false ∧ decide ((j : Int) ≤ ys.length) = false) ∨ ((decide (j ≤ ys.length) = true ∧ decide ((j : Int) ≤ ys.length) = true) ∧ decide (j ≤ 40) = false ∧ decide ((j : Int) ≤ 40) = false) := by
            by_cases h1 : j ≤ ys.length
            · exact .inr ⟨⟨by simp; omega, by simp; omega⟩, by simp; omega, by simp; omega⟩
            · exact .inl ⟨by simp; omega, by simp; omega⟩
          have hall := Lib.hid (hfin.out (by omega))
          have hlen0 := Lib.hid (hD.out.empty (fun i hi => by rw [hall.out i hi]; rfl))
          clear hin
          rcases hways with ⟨t0, t0'⟩ | ⟨⟨t0, t0'⟩, t1, t1'⟩
          all_goals
            go_wp2_with fail
            go_loop [16] (fun i => ∃ t : Nat, t ≤ k ∧ i = .int .i64 t) (fun i => k - (intOf i).toNat)
            case atStart => exact ⟨0, Nat.zero_le _, rfl⟩
            case round =>
              obtain ⟨t, htk, rfl⟩ := hrel
              by_cases htt : t < k
              · have t6 : decide (t < k) = true := by simp [htt]
                have t6' : decide ((t : Int) < k) = true := by simp; omega
                have e1 := (hU t htt).1
                dsimp only at e1
                rw [hall.out t htt] at e1
                go_wp2_with fail
                go_round
                case rel => exact ⟨t + 1, by omega, by go_num⟩
                case measure => simp [intOf]; omega
              · have t6 : decide (t < k) = false := by simp [htt]
                have t6' : decide ((t : Int) < k) = false := by simp; omega
                go_wp2_with fail
                refine (lenG A hba.out hlen0.out _ hA).mono ?_
                rintro e w8 ⟨rfl, rfl⟩
                go_wp2_with fail
                refine (awake_calls _).mono ?_
                rintro e w9 ⟨rfl, hx9⟩
                go_wp2_with fail
                go_ret
                exact ⟨rfl, hext.trans hx9 (fun _ _ e => e)⟩

end Go.Proofs.Ytnobodgjabgikaa
