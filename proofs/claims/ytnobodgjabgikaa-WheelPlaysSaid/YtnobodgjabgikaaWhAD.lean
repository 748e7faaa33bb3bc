/- The law WheelPlays: the walk. -/
import Derived.Test.YtnobodgjabgikaaProg
import Derived.Test.YtnobodgjabgikaaWhAC
import Derived.IntWalk
namespace Go.Proofs.Ytnobodgjabgikaa
open Go.RowKit Go.Sort
set_option linter.unusedSimpArgs false
set_option linter.unusedVariables false

/-- An op as it lies. -/
structure OpW where
  kind : Int
  id : Int
  n : Nat
def opW (v : OpW) : List Value := [.int .i64 v.kind, .int .i64 v.id, .int .u64 (v.n : Int)]
theorem opW_len (v : OpW) : (opW v).length = 3 := rfl

theorem three0 {w : World} {b : Nat} {v0 v1 v2 : Value} {t : TypeId} (h : w.heap[b]? = some (.cells #[v0, v1, v2] t (0, 0))) : w.cell? ⟨b, 0, none⟩ = some v0 ∧ w.cell? ⟨b, 1, none⟩ = some v1 ∧ w.cell? ⟨b, 2, none⟩ = some v2 := by
  refine ⟨?_, ?_, ?_⟩
  · rw [cell_of_row w b 0 _ _ (0, 0) h]; rfl
  · rw [cell_of_row w b 1 _ _ (0, 0) h]; rfl
  · rw [cell_of_row w b 2 _ _ (0, 0) h]; rfl

/-- Behind a call on the wheel, and one on the reference's. -/
theorem pair_step {w wa wb : World} {W W' : Wh} {bx : Nat} {gx gx' : Option Nat} {L' : List Tm} (h : Pair w W bx gx) (a : Aft W W' w wa) (hb : RefW wb bx W'.now L' gx') (hL : L' = allD W'.due) (x : Ext (fun q => q = bx) wa wb) (hg : ∀ q, gx' = some q → gx = some q ∨ wa.heap.size ≤ q) : Pair wb W' bx gx' := by
  have hbx := h.ref.lt
  have hn : ¬ W'.own bx := fun e => by
    rcases a.own bx e with e | e
    · exact h.nb e
    · omega
  refine ⟨a.good.keep x (fun q h1 h2 => hn (h2 ▸ h1)), by rw [← hL]; exact hb, hn, fun q e1 e2 => ?_⟩
  rcases hg q e1 with e3 | e3
  · rcases a.own q e2 with e4 | e4
    · exact h.ng q e3 e4
    · obtain ⟨_, _, _, _, _, _, _, _, _, h6⟩ := h.ref
      have := h6 q e3
      omega
  · have := a.good.lt q e2
    omega
theorem pair_ref {w wa : World} {W W' : Wh} {bx : Nat} {gx : Option Nat} (h : Pair w W bx gx) (a : Aft W W' w wa) : RefW wa bx W.now (allD W.due) gx :=
  h.ref.keep a.ext h.nb (fun q e => h.ng q e)

def RefCanM (b now : Nat) (D : List (Int × Int)) (g : Option Nat) (id : Int) (w : World) (e : Ending) (w' : World) : Prop :=
  ∃ g', e = .returned (.bool (mget D id).isSome) ∧ RefW w' b now (allD (mdel D id)) g' ∧ Ext (fun q => q = b) w w' ∧ (∀ q, g' = some q → g = some q ∨ w.heap.size ≤ q)
theorem refCanM (b now : Nat) {D : List (Int × Int)} (g : Option Nat) (id : Int) (hD : (D.map (·.1)).Nodup) (w : World) (h : RefW w b now (allD D) g) (hLn : (allD D).length ≤ 1000000) :
    Calls Try.prog 18 #[.pointer (some ⟨b, 0, none⟩), .int .i64 id] w (RefCanM b now D g id w) :=
  (refCanW_calls b now (allD D) g id w h hLn).mono fun e w' ⟨L', g', he, h1, h2, h3, h4⟩ => ⟨g', by rw [he, refD_all hD], by rw [← can_same hD h1]; exact h2, h3, h4⟩

set_option maxRecDepth 100000 in
set_option maxHeartbeats 16000000 in
theorem playsW_walk (now : Nat) (A : Option Addr) (c b o : Nat) (vs : List OpW) (w : World) (hnow : now < 18446744073709551616) (hv : SlR w 3 opW A c b o vs) (hop : ∀ v ∈ vs, v.n < 18446744073709551616) :
    Calls Try.prog 8 #[.int .u64 now, .slice A vs.length c] w fun e w' => e = .returned (.bool true) ∧ Ext NoB w w' := by
  have hle := hv.le
  have hmx := hv.max
  unfold maxLen at hmx
  have hop' := Lib.hid hop
  clear hop
  go_enter Try.func8, Try.ntmps8
  go_wp2_with fail
  refine (newG now _ hnow).mono ?_
  rintro e w1 ⟨WA, rfl, hA, nA, dA, x1, oA⟩
  obtain ⟨ba, hba⟩ : ∃ b, WA.b = b := ⟨_, rfl⟩
  rw [hba]
  have hba' := Lib.hid hba
  have nA' := Lib.hid nA
  have dA' := Lib.hid dA
  clear hba nA dA
  have z1 := x1.size
  obtain ⟨bx, hbx⟩ : ∃ bx, w1.heap.size = bx := ⟨_, rfl⟩
  have hx2 : Ext NoB w (w1.alloc (.cells #[.int .u64 now, .slice none 0 0] 48)) := x1.alloc _
  have hP : Pair (w1.alloc (.cells #[.int .u64 now, .slice none 0 0] 48)) WA bx none :=
    ⟨hA.keep ((Ext.refl NoB w1).alloc _) (fun _ _ => nb), by
      rw [nA'.out, dA'.out, show allD [] = [] from by simp [allD, sortT]]
      exact ⟨none, 0, 0, 0, alloc_at' w1 _ _ hbx.symm, slR_nil rfl (by simp [maxLen]), by simp, by simp, .inl ⟨rfl, rfl⟩, by simp⟩, fun e => by have := hA.lt _ e; omega, by simp⟩
  have hob : ∀ q, WA.own q → w.heap.size ≤ q := oA
  have hbxw : w.heap.size ≤ bx := by omega
  have hblt : 0 < vs.length → b < w.heap.size := fun hp => World.block_lt_of_cell? w ⟨b, o + 0 * 3 + 0, none⟩ (hv.cell opW_len 0 vs[0] (List.getElem?_eq_getElem hp) 0 _ rfl)
  clear z1 hA x1 oA nA' dA'
  go_wp2_with fail
  clear hbx
  go_loopw [7] (fun i wr => ∃ (k : Nat) (W : Wh) (gx : Option Nat), k ≤ 60 ∧ k ≤ vs.length ∧ i = .int .i64 k ∧ Pair wr W bx gx ∧ Hid (W.b = ba) ∧ Ext NoB w wr ∧ (∀ q, W.own q → w.heap.size ≤ q) ∧ (∀ q, gx = some q → w.heap.size ≤ q)) (fun i _ => vs.length - (intOf i).toNat)
  case atStart => exact ⟨0, WA, none, by omega, by omega, rfl, hP, hba', hx2, hob, by simp⟩
  case round =>
    clear hP hx2 hob hba'
    obtain ⟨k, W, gx, hk60, hk, rfl, hP, hba, hext, oA, oG⟩ := hrel
    have z0 := hext.size
    by_cases hlt : k < vs.length ∧ k < 60
    · obtain ⟨hk3, hk4⟩ := hlt
      have t0 : decide (k < vs.length) = true := by simp; omega
      have t0' : decide ((k : Int) < vs.length) = true := by simp; omega
      have t1 : decide ((k : Int) < 60) = true := by simp; omega
      have t1' : decide (k < 60) = true := by simp; omega
      obtain rfl := hv.addr (by omega)
      have hvk := List.getElem?_eq_getElem hk3
      have e0 := hext.cell (hv.cell opW_len k vs[k] hvk 0 _ rfl) nb
      have e1 := hext.cell (hv.cell opW_len k vs[k] hvk 1 _ rfl) nb
      have e2 := hext.cell (hv.cell opW_len k vs[k] hvk 2 _ rfl) nb
      rw [Nat.add_zero] at e0
      have hn := hop'.out vs[k] (List.getElem_mem hk3)
      generalize vs[k] = v at *
      obtain ⟨kind, id, N⟩ := v
      dsimp only at e0 e1 e2 hn
      generalize wr = wo at *
      have hbo := alloc_at wo (.cells #[.int .i64 kind, .int .i64 id, .int .u64 (N : Int)] 50)
      obtain ⟨f0, f1, f2⟩ := three0 hbo
      have hal : Ext NoB wo (wo.alloc (.cells #[.int .i64 kind, .int .i64 id, .int .u64 (N : Int)] 50)) := (Ext.refl NoB wo).alloc _
      have hP1 := hP.keep hal (fun _ _ => nb) nb (fun _ _ => nb)
      have hPd := hP1.keep (Ext.refl NoB (wo.alloc (.cells #[.int .i64 kind, .int .i64 id, .int .u64 (N : Int)] 50))).drew (fun _ _ => nb) nb (fun _ _ => nb)
      have nO := Lib.hid (show ¬ W.own wo.heap.size from fun e => by have := hP.good.lt _ e; omega)
      have nX := Lib.hid (show ¬ wo.heap.size = bx from fun e => by have := hP.ref.lt; omega)
      have hnd := Lib.hid hP.good.inv.nd
      have hsm := Lib.hid hP.good.at'.small
      have hlen := Lib.hid (show (allD W.due).length ≤ 1000000 by rw [allD_len]; have := hP.good.inv.few; omega)
      have hext1 := hext.trans hal (fun _ _ e => e)
      have zz : wo.heap.size ≤ (wo.alloc (.cells #[.int .i64 kind, .int .i64 id, .int .u64 (N : Int)] 50)).heap.size := hal.size
      have zz' := Lib.hid zz
      have hP' := hP
      clear hbo zz
      by_cases hk0 : kind = 0
      · have t4 : (kind == 0) = true := by simp [hk0]
        clear hk0
        go_wp2_with fail
        go_region_held3 (fun w' => w'.cell? ⟨wo.heap.size, 1, none⟩ = some (.int .i64 id) ∧ w'.cell? ⟨wo.heap.size, 2, none⟩ = some (.int .u64 (N : Int))) (first
          | exact ⟨f1, f2⟩
          | exact ⟨hxb.cell (aA.ext.cell f1 nO.out) nX.out, hxb.cell (aA.ext.cell f2 nO.out) nX.out⟩
          | exact ⟨aA.ext.cell f1 nO.out, aA.ext.cell f2 nO.out⟩) (first
          | (go_at_call 10; (with_reducible refine (addG W hba.out id N _ hPd.good hn).mono ?_); rintro e wa ⟨W', rfl, aA, nA, dA⟩; have hRa := pair_ref hPd aA)
          | (go_at_call 17; (with_reducible refine (refAddW_calls bx W.now (allD W.due) gx id N wa hRa (allD_sorted hnd.out) hn).mono ?_); rintro e wb ⟨er, L', gx', rfl, hT, hRb, hxb, hgb⟩; obtain ⟨rfl, hLL⟩ := add_same hnd.out (by rw [← dA]; exact aA.good.inv.nd) hT))
        have hPz := pair_step hPd aA (by rw [nA]; exact hRb) (by rw [hLL, dA]) hxb hgb
        have f1z := hxb.cell (aA.ext.cell f1 nO.out) nX.out
        have hzz := hext1.trans (Ext.refl NoB (wo.alloc (.cells #[.int .i64 kind, .int .i64 id, .int .u64 (N : Int)] 50))).drew (fun _ _ e => e)
        have hszz := hzz.size
        have hsza := aA.ext.size
        have hextz := (hzz.trans (F := NoB) aA.ext (fun q h1 h2 => by have := oA q h2; omega)).trans (F := NoB) hxb (fun q h1 h2 => by omega)
        have oA' : ∀ q, W'.own q → w.heap.size ≤ q := fun q hq => by
          rcases aA.own q hq with h | h
          · exact oA q h
          · omega
        have oG' : ∀ q, gx' = some q → w.heap.size ≤ q := fun q hq => by
          rcases hgb q hq with h | h
          · exact oG q h
          · omega
        have hba' := Lib.hid (aA.b.trans hba.out)
        clear hP hP1 hPd hRa hRb hxb hgb aA nA dA hT hLL hP' f0 f1 f2 e0 e1 e2 hext hext1 hal hzz hszz hsza
        generalize wb = wz at *
        go_wp2_with fail
        refine (same_calls W' hba'.out id wz hPz).mono ?_
        rintro e wy ⟨rfl, hy⟩
        go_wp2_with fail
        go_roundw
        case rel => exact ⟨k + 1, W', gx', by omega, by omega, by go_num, hPz.keep hy (fun _ _ => nb) nb (fun _ _ => nb), hba', hextz.trans hy (fun _ _ e => e), oA', oG'⟩
        case measure => simp [intOf]; omega
      · have t4 : (kind == 0) = false := by simp [hk0]
        clear hk0
        by_cases hk1 : kind = 1
        · have t5 : (kind == 1) = true := by simp [hk1]
          clear hk1
          go_wp2_with fail
          go_region_held3 (fun w' => w'.cell? ⟨wo.heap.size, 1, none⟩ = some (.int .i64 id)) (first
            | exact f1
            | exact hxb.cell (aA.ext.cell f1 nO.out) nX.out
            | exact aA.ext.cell f1 nO.out) (first
            | (go_at_call 16; (with_reducible refine (cancelG W hba.out id _ hPd.good).mono ?_); rintro e wa ⟨W', rfl, aA, nA, dA⟩; have hRa := pair_ref hPd aA)
            | (go_at_call 18; (with_reducible refine (refCanM bx W.now gx id hnd.out wa hRa hlen.out).mono ?_); rintro e wb ⟨gx', rfl, hRb, hxb, hgb⟩))
          have hPz := pair_step hPd aA (by rw [nA]; exact hRb) (by rw [dA]) hxb hgb
          have f1z := hxb.cell (aA.ext.cell f1 nO.out) nX.out
          have hzz := hext1.trans (Ext.refl NoB (wo.alloc (.cells #[.int .i64 kind, .int .i64 id, .int .u64 (N : Int)] 50))).drew (fun _ _ e => e)
          have hszz := hzz.size
          have hsza := aA.ext.size
          have hextz := (hzz.trans (F := NoB) aA.ext (fun q h1 h2 => by have := oA q h2; omega)).trans (F := NoB) hxb (fun q h1 h2 => by omega)
          have oA' : ∀ q, W'.own q → w.heap.size ≤ q := fun q hq => by
            rcases aA.own q hq with h | h
            · exact oA q h
            · omega
          have oG' : ∀ q, gx' = some q → w.heap.size ≤ q := fun q hq => by
            rcases hgb q hq with h | h
            · exact oG q h
            · omega
          have hba' := Lib.hid (aA.b.trans hba.out)
          clear hP hP1 hPd hRa hRb hxb hgb aA nA dA hP' f0 f1 f2 e0 e1 e2 hext hext1 hal hzz hszz hsza
          generalize wb = wz at *
          go_wp2_with fail
          refine (same_calls W' hba'.out id wz hPz).mono ?_
          rintro e wy ⟨rfl, hy⟩
          go_wp2_with fail
          go_roundw
          case rel => exact ⟨k + 1, W', gx', by omega, by omega, by go_num, hPz.keep hy (fun _ _ => nb) nb (fun _ _ => nb), hba', hextz.trans hy (fun _ _ e => e), oA', oG'⟩
          case measure => simp [intOf]; omega
        · have t5 : (kind == 1) = false := by simp [hk1]
          clear hk1
          by_cases hk2 : kind = 2
          · have t6 : (kind == 2) = true := by simp [hk2]
            clear hk2
            obtain ⟨T0, hT0, hT0s⟩ : ∃ T0 : Nat, IntKind.u64.wrap ((W.now : Int) + (N : Int)) = (T0 : Int) ∧ T0 < 18446744073709551616 := ⟨(W.now + N) % 18446744073709551616, by rw [IntKind.wrap_u64]; omega, by omega⟩
            obtain ⟨A7, c7, b7, o7, r1, _⟩ := hP1.ref
            have x0 : (wo.alloc (.cells #[.int .i64 kind, .int .i64 id, .int .u64 (N : Int)] 50)).cell? ⟨bx, 0, none⟩ = some (.int .u64 W.now) := by rw [cell_of_row _ bx 0 _ _ (0, 0) r1]; rfl
            clear r1
            go_wp2_with fail
            go_quiet (fail)
            clear hT0
            refine gen_then ?_
            intro wq hq
            have hPq := hP1.keep hq (fun _ _ => nb) nb (fun _ _ => nb)
            have f1q := hq.cell f1 nb
            have hextq := hext1.trans hq (fun _ _ e => e)
            have hzq : wo.heap.size ≤ wq.heap.size := Nat.le_trans hal.size hq.size
            clear x0 hP1 hPd hP' hP f0 f1 f2 e0 e1 e2 hext hext1 hal
            go_wp2_with fail
            obtain ⟨T, hT⟩ : ∃ T, max T0 W.now = T := ⟨_, rfl⟩
            have hTi := Lib.hid (show max (W.now : Int) (T0 : Int) = (T : Int) by omega)
            have hT' := Lib.hid hT
            clear hT
            refine (advT W hba.out T0 T _ hPq.good hT0s hT'.out).mono ?_
            rintro e wa ⟨v1, g1, ls, W', rfl, hO1, ht1, hl1, aA, nA, dA, hg1⟩
            have hRa := pair_ref hPq aA
            have hsza := aA.ext.size
            obtain ⟨A1, c1, b1, o1, rfl, hr1, hgr1⟩ := hO1.read
            go_wp2_with fail
            refine (refAdv_calls bx W.now T0 T (allD W.due) gx wa hRa hTi.out hlen.out).mono ?_
            rintro e wb ⟨v2, g2, gx', kk, rfl, hkk, hlow, hhigh, hO2, hRb, hxb, hg2, hgb⟩
            obtain ⟨hTl, hdr⟩ := adv_same hnd.out hkk hlow hhigh
            obtain ⟨A2, c2, b2, o2, rfl, hr2, _⟩ := hO2.read
            have hbxw2 := hPq.ref.lt
            have hr1b := hr1.keep hxb (fun hp e => by have := (hg1 b1 (hgr1 hp)).1; omega)
            have hls := Lib.hid (ht1.d.unique hTl)
            have hPz0 := pair_step hPq aA (by rw [nA]; exact hRb) (by rw [hdr, dA]; rfl) hxb (fun q e => .inr (hgb q e))
            have f1b := hxb.cell (aA.ext.cell f1q nO.out) nX.out
            have hszq := hextq.size
            have hextb := (hextq.trans (F := NoB) aA.ext (fun q h1 h2 => by have := oA q h2; omega)).trans (F := NoB) hxb (fun q h1 h2 => by omega)
            have oA' : ∀ q, W'.own q → w.heap.size ≤ q := fun q hq => by
              rcases aA.own q hq with h | h
              · exact oA q h
              · omega
            have oG' : ∀ q, gx' = some q → w.heap.size ≤ q := fun q hq => by have := hgb q hq; omega
            have hba' := Lib.hid (aA.b.trans hba.out)
            clear hRa hRb hxb hgb aA nA dA hkk hlow hhigh hO2 hO1 hg2 hg1 hgr1 hr1 hTl hdr ht1 hPq f1q hextq
            generalize (allD W.due).take kk = ls2 at *
            go_wp2_with fail
            refine (sameT_calls A1 c1 b1 o1 ls A2 c2 b2 o2 ls2 wb hr1b hr2 hls.out).mono ?_
            rintro e wz ⟨rfl, hc⟩
            have hPz := hPz0.keep hc (fun _ _ => nb) nb (fun _ _ => nb)
            have f1z := hc.cell f1b nb
            have hextz := hextb.trans hc (fun _ _ e => e)
            clear hr1b hr2 hPz0 f1b hextb
            go_wp2_with fail
            refine (same_calls W' hba'.out id wz hPz).mono ?_
            rintro e wy ⟨rfl, hy⟩
            go_wp2_with fail
            go_roundw
            case rel => exact ⟨k + 1, W', gx', by omega, by omega, by go_num, hPz.keep hy (fun _ _ => nb) nb (fun _ _ => nb), hba', hextz.trans hy (fun _ _ e => e), oA', oG'⟩
            case measure => simp [intOf]; omega
          · have t6 : (kind == 2) = false := by simp [hk2]
            clear hk2
            go_wp2_with fail
            have hPq := hP1
            have f1q := f1
            have hextq := hext1
            have hzq : wo.heap.size ≤ (wo.alloc (.cells #[.int .i64 kind, .int .i64 id, .int .u64 (N : Int)] 50)).heap.size := hal.size
            clear hP1 hPd hP' hP f0 f1 f2 e0 e1 e2 hext hext1 hal
            generalize wo.alloc (.cells #[.int .i64 kind, .int .i64 id, .int .u64 (N : Int)] 50) = wq at *
            obtain ⟨T, hT⟩ : ∃ T, max N W.now = T := ⟨_, rfl⟩
            have hTi := Lib.hid (show max (W.now : Int) (N : Int) = (T : Int) by omega)
            have hT' := Lib.hid hT
            clear hT
            refine (advT W hba.out N T _ hPq.good hn hT'.out).mono ?_
            rintro e wa ⟨v1, g1, ls, W', rfl, hO1, ht1, hl1, aA, nA, dA, hg1⟩
            have hRa := pair_ref hPq aA
            have hsza := aA.ext.size
            obtain ⟨A1, c1, b1, o1, rfl, hr1, hgr1⟩ := hO1.read
            go_wp2_with fail
            refine (refAdv_calls bx W.now N T (allD W.due) gx wa hRa hTi.out hlen.out).mono ?_
            rintro e wb ⟨v2, g2, gx', kk, rfl, hkk, hlow, hhigh, hO2, hRb, hxb, hg2, hgb⟩
            obtain ⟨hTl, hdr⟩ := adv_same hnd.out hkk hlow hhigh
            obtain ⟨A2, c2, b2, o2, rfl, hr2, _⟩ := hO2.read
            have hbxw2 := hPq.ref.lt
            have hr1b := hr1.keep hxb (fun hp e => by have := (hg1 b1 (hgr1 hp)).1; omega)
            have hls := Lib.hid (ht1.d.unique hTl)
            have hPz0 := pair_step hPq aA (by rw [nA]; exact hRb) (by rw [hdr, dA]; rfl) hxb (fun q e => .inr (hgb q e))
            have f1b := hxb.cell (aA.ext.cell f1q nO.out) nX.out
            have hszq := hextq.size
            have hextb := (hextq.trans (F := NoB) aA.ext (fun q h1 h2 => by have := oA q h2; omega)).trans (F := NoB) hxb (fun q h1 h2 => by omega)
            have oA' : ∀ q, W'.own q → w.heap.size ≤ q := fun q hq => by
              rcases aA.own q hq with h | h
              · exact oA q h
              · omega
            have oG' : ∀ q, gx' = some q → w.heap.size ≤ q := fun q hq => by have := hgb q hq; omega
            have hba' := Lib.hid (aA.b.trans hba.out)
            clear hRa hRb hxb hgb aA nA dA hkk hlow hhigh hO2 hO1 hg2 hg1 hgr1 hr1 hTl hdr ht1 hPq f1q hextq
            generalize (allD W.due).take kk = ls2 at *
            go_wp2_with fail
            refine (sameT_calls A1 c1 b1 o1 ls A2 c2 b2 o2 ls2 wb hr1b hr2 hls.out).mono ?_
            rintro e wz ⟨rfl, hc⟩
            have hPz := hPz0.keep hc (fun _ _ => nb) nb (fun _ _ => nb)
            have f1z := hc.cell f1b nb
            have hextz := hextb.trans hc (fun _ _ e => e)
            clear hr1b hr2 hPz0 f1b hextb
            go_wp2_with fail
            refine (same_calls W' hba'.out id wz hPz).mono ?_
            rintro e wy ⟨rfl, hy⟩
            go_wp2_with fail
            go_roundw
            case rel => exact ⟨k + 1, W', gx', by omega, by omega, by go_num, hPz.keep hy (fun _ _ => nb) nb (fun _ _ => nb), hba', hextz.trans hy (fun _ _ e => e), oA', oG'⟩
            case measure => simp [intOf]; omega
    · have hways : (decide (k < vs.length) = false ∧ decide ((k : Int) < vs.length) = false) ∨ ((decide (k < vs.length) = true ∧ decide ((k : Int) < vs.length) = true) ∧ decide (k < 60) = false ∧ decide ((k : Int) < 60) = false) := by
        by_cases h1 : k < vs.length
        · exact .inr ⟨⟨by simp; omega, by simp; omega⟩, by simp; omega, by simp; omega⟩
        · exact .inl ⟨by simp; omega, by simp; omega⟩
      clear hlt
      rcases hways with ⟨t0, t0'⟩ | ⟨⟨t0, t0'⟩, t1, t1'⟩
      all_goals
        go_wp2_with fail
        refine (awake_calls _).mono ?_
        rintro e w9 ⟨rfl, hx9⟩
        go_wp2_with fail
        go_ret
        exact ⟨rfl, hext.trans hx9 (fun _ _ e => e)⟩

end Go.Proofs.Ytnobodgjabgikaa
