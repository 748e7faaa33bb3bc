/- The law WheelStops: the walk. -/
import Derived.Test.YtnobodgjabgikaaProg
import Derived.Test.YtnobodgjabgikaaWhU
namespace Go.Proofs.Ytnobodgjabgikaa
open Go.RowKit Go.Sort
set_option linter.unusedSimpArgs false
set_option linter.unusedVariables false

theorem info_u64 : (Try.prog.info? 25).map (fun i => (i.zero, i.size, i.bytes)) = some (some (.int .u64 0), 1, 8) := by kernel_rfl
theorem info_bool : (Try.prog.info? 4).map (fun i => (i.zero, i.size, i.bytes)) = some (some (.bool false), 1, 1) := by kernel_rfl

theorem ext_cell (w : World) (g j : Nat) (v : Value) : Ext (fun q => q = g) w (w.setCell ⟨g, j, none⟩ v) := (Ext.refl (fun q => q = g) w).setCell (fun _ => rfl) v
theorem addE_old {D : List (Int × Int)} {id d : Int} (h1 : 1 ≤ id) (h2 : mget D id = some d) : addE D id = 9 := by
  unfold addE; rw [if_neg (by omega), h2]; rfl

set_option maxRecDepth 100000 in
set_option maxHeartbeats 8000000 in
theorem stops_walk (A0 : Option Addr) (c0 b0 o0 : Nat) (xs : List Nat) (A1 : Option Addr) (c1 b1 o1 : Nat) (hs : List Int) (w : World) (hx : SlR w 1 natE A0 c0 b0 o0 xs) (hxb : ∀ n ∈ xs, n < 18446744073709551616) (hy : SlR w 1 intE A1 c1 b1 o1 hs) :
    Calls Try.prog 6 #[.slice A0 xs.length c0, .slice A1 hs.length c1] w fun e w' => e = .returned (.bool true) ∧ Ext NoB w w' := by
  have hxl := hx.le
  have hxm := hx.max
  have hyl := hy.le
  have hym := hy.max
  unfold maxLen at hxm hym
  obtain ⟨n, hn40, hnx, hn⟩ : ∃ n : Nat, n ≤ 40 ∧ n ≤ xs.length ∧ min (xs.length : Int) 40 = (n : Int) := ⟨min xs.length 40, by omega, by omega, by omega⟩
  have hxb' := Lib.hid hxb
  clear hxb
  go_enter Try.func6, Try.ntmps6
  go_wp2_with fail
  refine (newG 0 _ (by omega)).mono ?_
  rintro e w1 ⟨WA, rfl, hA, nA, dA, x1, oA⟩
  obtain ⟨ba, hba⟩ : ∃ b, WA.b = b := ⟨_, rfl⟩
  rw [hba]
  have hba' := Lib.hid hba
  have nA' := Lib.hid nA
  have dA' := Lib.hid dA
  clear hba nA dA
  have hb8 : 8 * n ≤ 281474976710656 := by omega
  have hb1' : 1 * n ≤ 281474976710656 := by omega
  have hbm : n ≤ maxLen := by unfold maxLen; omega
  go_wp2_with (first
    | (at_make; refine wpList_makeAr _ rfl _ _ _ rfl Try.underlying22 info_u64 rfl n rfl rfl hb8 hbm (fun w2 hV2 x2 => ?_))
    | (at_make; refine wpList_makeAr _ rfl _ _ _ rfl Try.underlying36 info_bool rfl n rfl rfl hb1' hbm (fun w3 hU3 x3 => ?_)))
  have z1 := x1.size
  have z2 := x2.size
  obtain ⟨gw, hgw⟩ : ∃ g, w1.heap.size = g := ⟨_, rfl⟩
  obtain ⟨gb, hgb⟩ : ∃ g, w2.heap.size = g := ⟨_, rfl⟩
  rw [hgw] at hV2 ⊢
  rw [hgb] at hU3 ⊢
  have hA3 := (hA.keep x2 (fun _ _ => nb)).keep x3 (fun _ _ => nb)
  have hV3 := hV2.keep x3 nb1
  have hx3 : Ext NoB w w3 := (x1.trans x2 (fun _ _ e => e)).trans x3 (fun _ _ e => e)
  have hgww : w.heap.size ≤ gw := by omega
  have hgbw : w.heap.size ≤ gb := by omega
  have hAw : ¬ WA.own gw := fun h => by have := hA.lt _ h; omega
  have hAb : ¬ WA.own gb := fun h => by have := hA.lt _ h; omega
  have hne : 0 < n → ¬ gw = gb := fun h => by have := hV2.lt h; omega
  have hD0 := Lib.hid (show DueIs WA.due n (fun _ => false) (fun _ => 0) by rw [dA'.out]; exact DueIs.nil _ _)
  clear z1 z2 hgw hgb hV2 hA x1 x2 x3 dA'
  go_wp2_with fail
  go_loopw [9] (fun i wr => ∃ (k : Nat) (A : Wh) (On : Nat → Bool) (Wt : Nat → Nat), k ≤ n ∧ i = .int .i64 k ∧ Good wr A ∧ Hid (A.b = ba) ∧ Hid (A.now = 0) ∧ Hid (DueIs A.due n On Wt) ∧ Hid (∀ j, On j = decide (j < k)) ∧ Hid (∀ j, j < k → Wt j < 1073741824) ∧ Ar wr gw n (fun j => .int .u64 (Wt j)) ∧ Ar wr gb n (fun j => .bool (On j)) ∧ Ext NoB w wr ∧ (∀ q, A.own q → w.heap.size ≤ q) ∧ (0 < n → ¬ A.own gw ∧ ¬ A.own gb)) (fun i _ => n - (intOf i).toNat)
  case atStart => exact ⟨0, WA, fun _ => false, fun _ => 0, by omega, rfl, hA3, hba', nA', hD0, Lib.hid (fun j => by simp), Lib.hid (fun j h => by omega), hV3, hU3, hx3, oA, fun _ => ⟨hAw, hAb⟩⟩
  case round =>
    clear hA3 hba' nA' hD0 hV3 hU3 hx3 oA hAw hAb
    obtain ⟨k, A, On, Wt, hk, rfl, hA, hba, nA, hD, hOn, hWt, hV, hU, hext, oA, hAg⟩ := hrel
    have z0 := hext.size
    by_cases hlt : k < n
    · have t0 : decide ((k : Int) < n) = true := by simp; omega
      have t0' : decide (k < n) = true := by simp; omega
      obtain rfl := hx.addr (by omega)
      have hkx : k < xs.length := by omega
      have hck := (hx.keep hext nb1).natCell k hkx
      have hxk := hxb'.out xs[k] (List.getElem_mem hkx)
      have hand := and_low xs[k] 30 hxk (by decide)
      generalize xs[k] = u at *
      have hyb2 : u % 2 ^ 30 < 1073741824 := Nat.mod_lt _ (by decide)
      generalize u % 2 ^ 30 = d at *
      simp only [show ((2 ^ 30 - 1 : Nat) : Int) = 1073741823 from rfl] at hand
      have hgg := hne (by omega)
      have k1 := (hV k hlt).1
      have k2 := (hV k hlt).2
      have s1 := hV.set hlt (.int .u64 (d : Int))
      have x4 : Ext (fun q => q = gw) wr (wr.setCell ⟨gw, k, none⟩ (.int .u64 (d : Int))) := ext_cell _ _ _ _
      have s2 := hU.keep x4 (fun _ e => hgg e.symm)
      have k3 := (s2 k hlt).1
      have k4 := (s2 k hlt).2
      have x5 : Ext (fun q => q = gb) (wr.setCell ⟨gw, k, none⟩ (.int .u64 (d : Int))) ((wr.setCell ⟨gw, k, none⟩ (.int .u64 (d : Int))).setCell ⟨gb, k, none⟩ (.bool true)) := ext_cell _ _ _ _
      have s3 := s1.keep x5 (fun _ e => hgg e)
      have s4 := s2.set hlt (.bool true)
      have k5 : ((wr.setCell ⟨gw, k, none⟩ (.int .u64 (d : Int))).setCell ⟨gb, k, none⟩ (.bool true)).cell? ⟨gw, k, none⟩ = some (.int .u64 (d : Int)) := by simpa using (s3 k hlt).1
      have hA5 := (hA.keep x4 (fun q h1 h2 => (hAg (by omega)).1 (h2 ▸ h1))).keep x5 (fun q h1 h2 => (hAg (by omega)).2 (h2 ▸ h1))
      have hext5 := (hext.trans (F := NoB) x4 (fun q h1 h2 => by omega)).trans (F := NoB) x5 (fun q h1 h2 => by omega)
      have z5 := hext5.size
      have hgwl := s3.lt (by omega)
      have hgbl := s4.lt (by omega)
      have hOk := hOn.out k
      rw [show decide (k < k) = false by simp] at hOk
      have hDk := Lib.hid (hD.out.none hOk)
      have hDa := Lib.hid (hD.out.add (d := d) hlt hOk)
      have hlen := hD.out.len
      clear hOk hV hU s1 s2 x4 x5 hext hA
      go_wp2_with fail
      clear k1 k2 k3 k4 k5 hck hand
      generalize (wr.setCell ⟨gw, k, none⟩ (.int .u64 (d : Int))).setCell ⟨gb, k, none⟩ (.bool true) = w5 at *
      refine (addOK A hba.out ((k : Int) + 1) d _ hA5 (by omega) (by omega) hDk.out (by omega)).mono ?_
      rintro e w6 ⟨A6, rfl, a6, n6, d6⟩
      have n6' := Lib.hid (n6.trans nA.out)
      have d6' := Lib.hid (show DueIs A6.due n _ _ by rw [d6]; exact hDa.out)
      have hba6 := Lib.hid (a6.b.trans hba.out)
      clear n6 d6
      have hs6 := Lib.hid (d6'.out.some hlt (by simp))
      go_wp2_with fail
      refine (addErr A6 hba6.out ((k : Int) + 1) 7 9 _ a6.good (by omega) (addE_old (by omega) hs6.out) (by decide)).mono ?_
      rintro e w7 ⟨A7, rfl, a7, n7, d7⟩
      have n7' := Lib.hid (n7.trans n6'.out)
      have d7' := Lib.hid (show DueIs A7.due n _ _ by rw [d7]; exact d6'.out)
      have hba7 := Lib.hid (a7.b.trans hba6.out)
      have z6 := a6.ext.size
      clear n7 d7
      have o6 : ∀ q, A6.own q → w.heap.size ≤ q := fun q hq => by
        rcases a6.own q hq with h | h
        · exact oA q h
        · omega
      have o7 : ∀ q, A7.own q → w.heap.size ≤ q := fun q hq => by
        rcases a7.own q hq with h | h
        · exact o6 q h
        · omega
      have hAg6 : ¬ A6.own gw ∧ ¬ A6.own gb := ⟨fun h => by
        rcases a6.own _ h with h | h
        · exact (hAg (by omega)).1 h
        · omega, fun h => by
        rcases a6.own _ h with h | h
        · exact (hAg (by omega)).2 h
        · omega⟩
      have hAg7 : ¬ A7.own gw ∧ ¬ A7.own gb := ⟨fun h => by
        rcases a7.own _ h with h | h
        · exact hAg6.1 h
        · omega, fun h => by
        rcases a7.own _ h with h | h
        · exact hAg6.2 h
        · omega⟩
      go_wp2_with fail
      go_roundw
      case rel =>
        refine ⟨k + 1, A7, _, _, by omega, by go_num, a7.good, hba7, n7', d7', Lib.hid (fun j => ?_), Lib.hid (fun j hj => ?_), (((s3.keep a6.ext (fun _ => (hAg (by omega)).1)).keep a7.ext (fun _ => hAg6.1))).congr (fun j hj => ?_), (((s4.keep a6.ext (fun _ => (hAg (by omega)).2)).keep a7.ext (fun _ => hAg6.2))).congr (fun j hj => ?_), (hext5.trans (F := NoB) a6.ext (fun q h1 h2 => by have := oA q h2; omega)).trans (F := NoB) a7.ext (fun q h1 h2 => by have := o6 q h2; omega), o7, fun _ => hAg7⟩
        · by_cases hjk : j = k
          · simp [hjk]
          · simp only [if_neg hjk]
            rw [hOn.out j, Bool.eq_iff_iff, decide_eq_true_iff, decide_eq_true_iff]; omega
        · by_cases hjk : j = k
          · simp only [if_pos hjk]; exact hyb2
          · simp only [if_neg hjk]; exact hWt.out j (by omega)
        · by_cases hjk : j = k <;> simp [hjk]
        · by_cases hjk : j = k <;> simp [hjk]
      case measure => simp [intOf]; omega
    · have t0 : decide ((k : Int) < n) = false := by simp; omega
      have t0' : decide (k < n) = false := by simp; omega
      obtain rfl : k = n := by omega
      have hOn1 := Lib.hid (show ∀ j, j < k → 0 ≤ j → On j = true from fun j hj _ => by rw [hOn.out j]; simp [hj])
      clear hOn
      go_wp2_with fail
      go_loopw [10] (fun i wr => ∃ (m : Nat) (A : Wh) (On : Nat → Bool) (Wt : Nat → Nat), m ≤ k ∧ m ≤ hs.length ∧ i = .int .i64 m ∧ Good wr A ∧ Hid (A.b = ba) ∧ Hid (A.now = 0) ∧ Hid (DueIs A.due k On Wt) ∧ Hid (∀ j, j < k → m ≤ j → On j = true) ∧ Hid (∀ j, j < k → Wt j < 1073741824) ∧ Ar wr gw k (fun j => .int .u64 (Wt j)) ∧ Ar wr gb k (fun j => .bool (On j)) ∧ Ext NoB w wr ∧ (∀ q, A.own q → w.heap.size ≤ q) ∧ (0 < k → ¬ A.own gw ∧ ¬ A.own gb)) (fun i _ => k - (intOf i).toNat)
      case atStart => exact ⟨0, A, On, Wt, by omega, by omega, rfl, hA, hba, nA, hD, hOn1, hWt, hV, hU, hext, oA, hAg⟩
      case round =>
        clear hA hba nA hD hOn1 hWt hV hU hext oA hAg
        obtain ⟨m, A, On, Wt, hmk, hmh, rfl, hA, hba, nA, hD, hOn, hWt, hV, hU, hext, oA, hAg⟩ := hrel
        have z0 := hext.size
        by_cases hlt : m < k ∧ m < hs.length
        · obtain ⟨hlk, hlh⟩ := hlt
          have t0 : decide ((m : Int) < k) = true := by simp; omega
          have t0' : decide (m < k) = true := by simp; omega
          have t1 : decide ((m : Int) < hs.length) = true := by simp; omega
          have t1' : decide (m < hs.length) = true := by simp; omega
          obtain rfl := hy.addr (by omega)
          have hck := (hy.keep hext nb1).intCell m hlh
          have hblt : b1 < w.heap.size := World.block_lt_of_cell? w ⟨b1, o1 + m, none⟩ (hy.intCell m hlh)
          obtain ⟨q, hq0, hq⟩ : ∃ q : Nat, bits .and .i64 hs[m] 3 = (q : Int) ∧ q < 4 := ⟨(hs[m] % 4).toNat, by rw [i64_mask hs[m] 3 2 4 (by decide) (by decide) (by decide) (by decide) (by decide)]; omega, by omega⟩
          obtain ⟨v, hv0, hv⟩ : ∃ v : Nat, bits .and .i64 (hs[m] / 4) 4095 = (v : Int) ∧ v < 4096 := ⟨(hs[m] / 4 % 4096).toNat, by rw [i64_mask (hs[m] / 4) 4095 12 4096 (by decide) (by decide) (by decide) (by decide) (by decide)]; omega, by omega⟩
          have hcki : ∀ wz, Ext (fun q => q = gw ∨ q = gb ∨ A.own q) wr wz → wz.cell? ⟨b1, o1 + m, none⟩ = some (.int .i64 hs[m]) := fun wz hz => hz.cell hck (by
            rintro (h | h | h)
            · dsimp only at h; omega
            · dsimp only at h; omega
            · have := oA _ h; dsimp only at this; omega)
          have hcki' := Lib.hid hcki
          clear hcki
          generalize hs[m] = hm at *
          by_cases hq00 : q = 0
          · subst hq00
            go_wp2_with fail
            go_roundw
            case rel => exact ⟨m + 1, A, On, Wt, by omega, by omega, by go_num, hA, hba, nA, hD, Lib.hid (fun j h1 h2 => hOn.out j h1 (by omega)), hWt, hV, hU, hext, oA, hAg⟩
            case measure => simp [intOf]; omega
          · have e0 : ((q : Int) == 0) = false := by simp; omega
            have hq00' := Lib.hid hq00
            clear hq00
            have hOm := hOn.out m hlk (by omega)
            have hDm := Lib.hid (hD.out.some hlk hOm)
            go_wp2_with fail
            refine (canYes A hba.out ((m : Int) + 1) _ hA hDm.out).mono ?_
            rintro e w6 ⟨A6, rfl, a6, n6, d6⟩
            have n6' := Lib.hid (n6.trans nA.out)
            have d6' := Lib.hid (show DueIs A6.due k (fun i => if i = m then false else On i) Wt by rw [d6]; exact hD.out.del m)
            have hba6 := Lib.hid (a6.b.trans hba.out)
            have z6 := a6.ext.size
            clear n6 d6
            go_wp2_with fail
            refine (canNo A6 hba6.out ((m : Int) + 1) _ a6.good (d6'.out.none (by simp))).mono ?_
            rintro e w7 ⟨A7, rfl, a7, n7, d7⟩
            have n7' := Lib.hid (n7.trans n6'.out)
            have d7' := Lib.hid (show DueIs A7.due k (fun i => if i = m then false else On i) Wt by rw [d7]; exact d6'.out)
            have hba7 := Lib.hid (a7.b.trans hba6.out)
            have z7 := a7.ext.size
            clear n7 d7
            have hgg := hne (by omega)
            have hgwl := hV.lt (by omega)
            have hgbl := hU.lt (by omega)
            have hAg' := hAg (by omega)
            have o6 : ∀ q, A6.own q → w.heap.size ≤ q := fun q hq => by
              rcases a6.own q hq with h | h
              · exact oA q h
              · omega
            have o7 : ∀ q, A7.own q → w.heap.size ≤ q := fun q hq => by
              rcases a7.own q hq with h | h
              · exact o6 q h
              · omega
            have hAg6 : ¬ A6.own gw ∧ ¬ A6.own gb := ⟨fun h => by
              rcases a6.own _ h with h | h
              · exact hAg'.1 h
              · omega, fun h => by
              rcases a6.own _ h with h | h
              · exact hAg'.2 h
              · omega⟩
            have hAg7 : ¬ A7.own gw ∧ ¬ A7.own gb := ⟨fun h => by
              rcases a7.own _ h with h | h
              · exact hAg6.1 h
              · omega, fun h => by
              rcases a7.own _ h with h | h
              · exact hAg6.2 h
              · omega⟩
            have y7 : Ext (fun q => q = gw ∨ q = gb ∨ A.own q) wr w7 := (a6.ext.mono (fun q _ h => .inr (.inr h))).trans a7.ext (fun q h1 h2 => by
              rcases a6.own q h2 with h | h
              · exact .inr (.inr h)
              · omega)
            have hext7 : Ext NoB w w7 := (hext.trans (F := NoB) a6.ext (fun q h1 h2 => by have := oA q h2; omega)).trans (F := NoB) a7.ext (fun q h1 h2 => by have := o6 q h2; omega)
            have hV7 := (hV.keep a6.ext (fun _ => hAg'.1)).keep a7.ext (fun _ => hAg6.1)
            have hU7 := (hU.keep a6.ext (fun _ => hAg'.2)).keep a7.ext (fun _ => hAg6.2)
            have k1 := (hU7 m hlk).1
            have k2 := (hU7 m hlk).2
            have x8 := ext_cell w7 gb m (.bool false)
            have hV8 := hV7.keep x8 (fun _ e => hgg e)
            have hU8 := hU7.set hlk (.bool false)
            have y8 := y7.trans (F := fun q => q = gw ∨ q = gb ∨ A.own q) x8 (fun q h1 h2 => .inr (.inl h2))
            have k3 := hcki'.out _ y8
            have hA8 := a7.good.keep x8 (fun q h1 h2 => hAg7.2 (h2 ▸ h1))
            have hext8 := hext7.trans (F := NoB) x8 (fun q h1 h2 => by omega)
            clear hV hU hV7 hU7 hext hext7 hA a6 a7 y7 hD
            by_cases hq1 : q = 1
            · subst hq1
              have k4 := (hV8 m hlk).1
              have k5 := (hV8 m hlk).2
              have x9 := ext_cell (w7.setCell ⟨gb, m, none⟩ (.bool false)) gw m (.int .u64 (v : Int))
              have hV9 := hV8.set hlk (.int .u64 (v : Int))
              have hU9 := hU8.keep x9 (fun _ e => hgg e.symm)
              have k6 := (hU9 m hlk).1
              have k7 := (hU9 m hlk).2
              have x10 := ext_cell ((w7.setCell ⟨gb, m, none⟩ (.bool false)).setCell ⟨gw, m, none⟩ (.int .u64 (v : Int))) gb m (.bool true)
              have hV10 := hV9.keep x10 (fun _ e => hgg e)
              have hU10 := hU9.set hlk (.bool true)
              have k8 : (((w7.setCell ⟨gb, m, none⟩ (.bool false)).setCell ⟨gw, m, none⟩ (.int .u64 (v : Int))).setCell ⟨gb, m, none⟩ (.bool true)).cell? ⟨gw, m, none⟩ = some (.int .u64 (v : Int)) := by simpa using (hV10 m hlk).1
              have hA10 := (hA8.keep x9 (fun q h1 h2 => hAg7.1 (h2 ▸ h1))).keep x10 (fun q h1 h2 => hAg7.2 (h2 ▸ h1))
              have hext10 := (hext8.trans (F := NoB) x9 (fun q h1 h2 => by omega)).trans (F := NoB) x10 (fun q h1 h2 => by omega)
              have z10 := hext10.size
              have hgwl' := hV10.lt (by omega)
              have hgbl' := hU10.lt (by omega)
              have hlen := d7'.out.len
              clear hV8 hU8 hV9 hU9 x8 x9 x10 hext8 hA8 y8
              go_wp2_with fail
              clear k1 k2 k3 k4 k5 k6 k7 k8 hck hv0 hq0
              generalize ((w7.setCell ⟨gb, m, none⟩ (.bool false)).setCell ⟨gw, m, none⟩ (.int .u64 (v : Int))).setCell ⟨gb, m, none⟩ (.bool true) = w10 at *
              refine (addOK A7 hba7.out ((m : Int) + 1) v _ hA10 (by omega) (by omega) (d7'.out.none (by simp)) (by omega)).mono ?_
              rintro e w11 ⟨A11, rfl, a11, n11, d11⟩
              have n11' := Lib.hid (n11.trans n7'.out)
              have d11' := Lib.hid (show DueIs A11.due k _ _ by rw [d11]; exact d7'.out.add (d := v) hlk (by simp))
              have hba11 := Lib.hid (a11.b.trans hba7.out)
              clear n11 d11
              go_wp2_with fail
              go_roundw
              case rel =>
                refine ⟨m + 1, A11, _, _, by omega, by omega, by go_num, a11.good, hba11, n11', d11', Lib.hid (fun j h1 h2 => ?_), Lib.hid (fun j hj => ?_), ((hV10.keep a11.ext (fun _ => hAg7.1))).congr (fun j hj => ?_), ((hU10.keep a11.ext (fun _ => hAg7.2))).congr (fun j hj => ?_), hext10.trans (F := NoB) a11.ext (fun q h1 h2 => by have := o7 q h2; omega), fun q hq => ?_, fun _ => ⟨fun h => ?_, fun h => ?_⟩⟩
                · simp only [if_neg (show ¬ j = m by omega)]; exact hOn.out j h1 (by omega)
                · by_cases hjk : j = m
                  · simp only [if_pos hjk]; omega
                  · simp only [if_neg hjk]; exact hWt.out j (by omega)
                · by_cases hjk : j = m <;> simp [hjk]
                · by_cases hjk : j = m <;> simp [hjk]
                · rcases a11.own q hq with h | h
                  · exact o7 q h
                  · omega
                · rcases a11.own _ h with h | h
                  · exact hAg7.1 h
                  · omega
                · rcases a11.own _ h with h | h
                  · exact hAg7.2 h
                  · omega
              case measure => simp [intOf]; omega
            · have e1 : ((q : Int) == 1) = false := by simp; omega
              clear hq1
              go_wp2_with fail
              go_roundw
              case rel =>
                refine ⟨m + 1, A7, _, _, by omega, by omega, by go_num, hA8, hba7, n7', d7', Lib.hid (fun j h1 h2 => ?_), hWt, hV8, hU8.congr (fun j hj => ?_), hext8, o7, fun _ => hAg7⟩
                · simp only [if_neg (show ¬ j = m by omega)]; exact hOn.out j h1 (by omega)
                · by_cases hjk : j = m <;> simp [hjk]
              case measure => simp [intOf]; omega
        · have hways : (decide (m < k) = false ∧ decide ((m : Int) < k) = false) ∨ ((decide (m < k) = true ∧ decide ((m : Int) < k) = true) ∧ decide (m < hs.length) = false ∧ decide ((m : Int) < hs.length) = false) := by
            by_cases h1 : m < k
            · exact .inr ⟨⟨by simp; omega, by simp; omega⟩, by simp; omega, by simp; omega⟩
            · exact .inl ⟨by simp; omega, by simp; omega⟩
          clear hlt
          rcases hways with ⟨t0, t0'⟩ | ⟨⟨t0, t0'⟩, t1, t1'⟩
          all_goals
            go_wp2_with fail
            refine (advT A hba.out 2147483648 2147483648 _ hA (by omega) (by rw [nA.out]; rfl)).mono ?_
            rintro e w6 ⟨v6, g6, ls, A6, rfl, hO6, ht6, hl6, a6, n6, d6, hg6⟩
            have hD6 := Lib.hid (show DueIs A6.due k _ _ by rw [d6]; exact hD.out.late 2147483648)
            have ht := Lib.hid (fun t => hD.out.told ht6.d (t := t))
            have hls := Lib.hid (tlt_nodup ht6.srt)
            have hba6 := Lib.hid (a6.b.trans hba.out)
            have hext6 := hext.trans (F := NoB) a6.ext (fun q h1 h2 => by have := oA q h2; omega)
            have hV6 := hV.keep a6.ext (fun h => (hAg h).1)
            have hU6 := hU.keep a6.ext (fun h => (hAg h).2)
            have hAg6 : 0 < k → ¬ A6.own gw ∧ ¬ A6.own gb := fun hp => ⟨fun h => by
              rcases a6.own _ h with h | h
              · exact (hAg hp).1 h
              · have := hV.lt hp; omega, fun h => by
              rcases a6.own _ h with h | h
              · exact (hAg hp).2 h
              · have := hU.lt hp; omega⟩
            have hgV : ∀ hp : 0 < k, gw < wr.heap.size := fun hp => hV.lt hp
            have hgU : ∀ hp : 0 < k, gb < wr.heap.size := fun hp => hU.lt hp
            obtain ⟨A7, c7, b7, o7, rfl, hr7, hgr7⟩ := hO6.read
            have hb7 : 0 < ls.length → wr.heap.size ≤ b7 := fun hp => (hg6 b7 (hgr7 hp)).1
            have hl7 := hr7.le
            have hm7 := hr7.max
            unfold maxLen at hm7
            have good6 := a6.good
            have oo6 : ∀ q, A6.own q → w.heap.size ≤ q := fun q hq => by
              rcases a6.own q hq with h | h
              · exact oA q h
              · omega
            clear ht6 n6 d6 hO6 hg6 hA hba nA hD hV hU hext oA hAg a6 hgr7
            go_wp2_with fail
            go_loopw [12] (fun i wz => ∃ (t : Nat) (Uf : Nat → Bool), t ≤ ls.length ∧ i = .int .i64 t ∧ Ar wz gb k (fun j => .bool (Uf j)) ∧ Hid (∀ j, j < k → Uf j = (On j && !decide ((((Wt j : Int), (j : Int) + 1) : Tm) ∈ ls.take t))) ∧ Ext (fun q => q = gb ∧ 0 < k) w6 wz) (fun i _ => ls.length - (intOf i).toNat)
            case atStart => exact ⟨0, On, Nat.zero_le _, rfl, hU6, Lib.hid (fun j _ => by simp), Ext.refl _ _⟩
            case round =>
              obtain ⟨t, Uf, htl, rfl, hU, hUf, hxz⟩ := hrel
              by_cases htt : t < ls.length
              · have t5 : decide (t < ls.length) = true := by simp [htt]
                have t5' : decide ((t : Int) < ls.length) = true := by simp; omega
                obtain rfl := hr7.addr (by omega)
                have hb7' := hb7 (by omega)
                obtain ⟨j, hjk, hju, hjo, hjw⟩ := (ht.out ls[t]).1 (List.getElem_mem htt)
                have hgb1 := hgU (by omega)
                have hr7z := hr7.keep hxz (fun _ e => by omega)
                have e70 := hr7z.cell timerE_len t ls[t] (List.getElem?_eq_getElem htt) 0 _ rfl
                have e71 := hr7z.cell timerE_len t ls[t] (List.getElem?_eq_getElem htt) 1 _ rfl
                rw [Nat.add_zero] at e70
                have htk := Lib.hid (show ls.take (t + 1) = ls.take t ++ [ls[t]] from List.take_succ_eq_append_getElem htt)
                have hnt := Lib.hid (show ls[t] ∉ ls.take t from fun h => by
                  obtain ⟨j', hj', he⟩ := List.mem_iff_getElem.1 h
                  rw [List.length_take] at hj'
                  rw [List.getElem_take] at he
                  have := nodup_getElem?_inj hls.out (List.getElem?_eq_getElem (show j' < ls.length by omega)) (by rw [he]; exact List.getElem?_eq_getElem htt)
                  omega)
                rw [hju] at e70 e71 htk hnt
                dsimp only at e70 e71
                have hUj : Uf j = true := by rw [hUf.out j hjk, hjo]; simpa using hnt.out
                have hVz := hV6.keep hxz (fun hp e => hne (by omega) e.1)
                have e1 := (hVz j hjk).1
                have e2 := (hU j hjk).1
                have e3 := (hU j hjk).2
                dsimp only at e1 e2
                rw [hUj] at e2
                generalize hwv : Wt j = wv at *
                have hwv' := Lib.hid hwv
                clear hwv
                have i1 : decide ((j : Int) + 1 < 1) = false := by simp; omega
                have i2 : decide ((k : Int) < (j : Int) + 1) = false := by simp; omega
                have hUn := hU.set hjk (.bool false)
                go_wp2_with fail
                go_quiet (fail)
                go_wp2_with fail
                go_roundw
                case rel =>
                  refine ⟨t + 1, fun i => if i = j then false else Uf i, by omega, by go_num, ((hU.keep ((Ext.refl NoB _).drewN _) nb1).set hjk (.bool false)).congr (fun i hi => ?_), Lib.hid (fun i hi => ?_), (hxz.drewN _).trans (ext_cell _ _ _ _) (fun q h1 h2 => ⟨h2, by omega⟩)⟩
                  · by_cases hij : i = j <;> simp [hij]
                  · rw [htk.out]
                    by_cases hij : i = j
                    · subst hij
                      rw [hwv'.out]; simp
                    · simp only [if_neg hij]
                      rw [hUf.out i hi]
                      have h1 : ¬ ((i : Int) = (j : Int)) := by omega
                      simp [h1]
                case measure => simp [intOf]; omega
              · have t5 : decide (t < ls.length) = false := by simp [htt]
                have t5' : decide ((t : Int) < ls.length) = false := by simp; omega
                have hall := Lib.hid (show ∀ j, j < k → Uf j = false from fun j hj => by
                  rw [hUf.out j hj, List.take_of_length_le (by omega)]
                  cases ho : On j with
                  | false => rfl
                  | true =>
                    have h1 := hWt.out j hj
                    have : (((Wt j : Int), (j : Int) + 1) : Tm) ∈ ls := (ht.out _).2 ⟨j, hj, rfl, ho, by omega⟩
                    simp [this])
                have hlen0 := Lib.hid (hD6.out.empty (fun j hj => by
                  have h1 := hWt.out j hj
                  have : ¬ 2147483648 < Wt j := by omega
                  simp [this]))
                have gz := good6.keep hxz (fun q h1 h2 => (hAg6 h2.2).2 (h2.1 ▸ h1))
                clear hr7
                go_wp2_with fail
                go_loop [14] (fun i => ∃ t : Nat, t ≤ k ∧ i = .int .i64 t) (fun i => k - (intOf i).toNat)
                case atStart => exact ⟨0, Nat.zero_le _, rfl⟩
                case round =>
                  obtain ⟨t, htk, rfl⟩ := hrel
                  by_cases htt : t < k
                  · have t6 : decide (t < k) = true := by simp [htt]
                    have t6' : decide ((t : Int) < k) = true := by simp; omega
                    have e1 := (hU t htt).1
                    dsimp only at e1
                    rw [hall.out t htt] at e1
                    go_wp2_with fail
                    go_round
                    case rel => exact ⟨t + 1, by omega, by go_num⟩
                    case measure => simp [intOf]; omega
                  · have t6 : decide (t < k) = false := by simp [htt]
                    have t6' : decide ((t : Int) < k) = false := by simp; omega
                    go_wp2_with fail
                    refine (lenG A6 hba6.out hlen0.out _ gz).mono ?_
                    rintro e w8 ⟨rfl, rfl⟩
                    go_wp2_with fail
                    refine (awake_calls _).mono ?_
                    rintro e w9 ⟨rfl, hx9⟩
                    go_wp2_with fail
                    go_ret
                    exact ⟨rfl, (hext6.trans (F := NoB) hxz (fun q h1 h2 => by omega)).trans hx9 (fun _ _ e => e)⟩

end Go.Proofs.Ytnobodgjabgikaa
