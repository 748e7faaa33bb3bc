/- DagPlays: the walk. -/
import Derived.Test.YtolihdcfhonfgaaProg
import Derived.Test.YtolihdcfhonfgaaDagX1
import Derived.Deep.RegionHeld3
namespace Go.Proofs.Ytolihdcfhonfgaa
open Go.RowKit
set_option linter.unusedSimpArgs false
set_option linter.unusedVariables false

theorem lenSame {w : World} {b r1 r2 N : Nat} {E : Int → Int → Prop} {L : List (Int × List Int)} (h : DagS w b r1 r2 E N) (hs : Sim E L) :
    Calls Try.prog 12 #[.pointer (some ⟨b, 0, none⟩)] w fun e w' => e = .returned (.int .i64 L.length) ∧ w = w' :=
  (lenS h).mono fun e w' ⟨n, he, hn, hw⟩ => ⟨by rw [he, hn _ hs.ids.1 hs.ids.2, List.length_map], hw⟩

/-- An op as it lies. -/
structure OpV where
  kind : Int
  id : Int
  a : Option Addr
  n : Nat
  c : Nat
def opE (v : OpV) : List Value := [.int .i64 v.kind, .int .i64 v.id, .slice v.a v.n v.c]
theorem opE_len (v : OpV) : (opE v).length = 3 := rfl
/-- An op's numbers. -/
def OpIs (w : World) (v : OpV) : Prop := InR v.id ∧ ∃ b o ps, v.n = ps.length ∧ SlR w 1 intE v.a v.c b o ps

set_option maxRecDepth 100000 in
set_option maxHeartbeats 8000000 in
theorem plays_walk (A : Option Addr) (c b o : Nat) (vs : List OpV) (W : World) (hv : SlR W 3 opE A c b o vs) (hop : ∀ (i : Nat) (v : OpV), vs[i]? = some v → OpIs W v) :
    Calls Try.prog 7 #[.slice A vs.length c] W fun e w' => e = .returned (.bool true) ∧ Ext NoB W w' := by
  have hle := hv.le
  have hmx := hv.max
  unfold maxLen at hmx
  go_enter Try.func7, Try.ntmps7
  go_wp2_with fail
  with_reducible refine (newS W).mono ?_
  rintro e w1 ⟨bd, r1, r2, rfl, hd1, hx1, hb1, hr1, hr2⟩
  go_wp2_with fail
  obtain ⟨lt0, lt1, lt2⟩ := hd1.lt
  have hsz1 := hx1.size
  have hR1 : RefAt (w1.alloc (.cells #[.slice none 0 0] 40)) w1.heap.size [] :=
    ⟨none, 0, 0, 0, [], alloc_at w1 _, slR_nil rfl (by simp [maxLen]), ⟨by simp, .inl ⟨rfl, rfl⟩⟩, rfl, by intro i r l h; simp at h⟩
  have hx2 : Ext NoB W (w1.alloc (.cells #[.slice none 0 0] 40)) := hx1.alloc _
  have hd2 := hd1.keep ((Ext.refl NoB w1).alloc (.cells #[.slice none 0 0] 40)) nb nb nb
  go_loopw [5] (fun i wr => ∃ (k N : Nat) (E : Int → Int → Prop) (L : List (Int × List Int)), k ≤ 50 ∧ k ≤ vs.length ∧ i = .int .i64 k ∧ DagS wr bd r1 r2 E N ∧ RefAt wr w1.heap.size L ∧ Sim E L ∧ N ≤ 50 * k ∧ (∀ l ∈ L, l.2.length ≤ 50) ∧ L.length ≤ k ∧ Ext NoB W wr) (fun i _ => 50 - (intOf i).toNat)
  case atStart => exact ⟨0, 0, _, [], by omega, by omega, rfl, hd2, hR1, Sim.nil, by omega, by simp, by simp, hx2⟩
  case round =>
    obtain ⟨k, N, E, L, hk50, hk, rfl, hd, hR, hsim, hN, hM, hLk, hext⟩ := hrel
    by_cases hlt : k < vs.length
    · by_cases hlt2 : k < 50
      · obtain rfl := hv.addr (by omega)
        have hvk := List.getElem?_eq_getElem hlt
        have e0 := hext.cell (hv.cell opE_len k vs[k] hvk 0 _ rfl) nb
        have e1 := hext.cell (hv.cell opE_len k vs[k] hvk 1 _ rfl) nb
        have e2 := hext.cell (hv.cell opE_len k vs[k] hvk 2 _ rfl) nb
        rw [Nat.add_zero] at e0
        obtain ⟨hid, pb, po, ps, hpn, hps0⟩ := hop k vs[k] hvk
        rw [hpn] at e2
        have hps := hps0.keep hext nb1
        have hpb : 0 < ps.length → pb < W.heap.size := fun hp => World.block_lt_of_cell? W ⟨pb, po + 0, none⟩ (hps0.intCell 0 hp)
        clear hvk hpn hps0
        generalize vs[k].kind = kind at *
        generalize vs[k].id = id at *
        generalize vs[k].a = pA at *
        generalize vs[k].c = pc at *
        generalize wr = wo at *
        have t1 : decide (k < vs.length) = true := by simp [hlt]
        have t2 : decide ((k : Int) < 50) = true := by simp; omega
        have t2' : decide (k < 50) = true := by simp [hlt2]
        have hszo := hext.size
        have hpl := hps.le
        have hpm := hps.max
        unfold maxLen at hpm
        have hal : Ext NoB wo (wo.alloc (.cells #[.int .i64 kind, .int .i64 id, .slice pA ps.length pc] 42)) := (Ext.refl NoB wo).alloc _
        have hbo : (wo.alloc (.cells #[.int .i64 kind, .int .i64 id, .slice pA ps.length pc] 42)).heap[wo.heap.size]? = some (.cells #[.int .i64 kind, .int .i64 id, .slice pA ps.length pc] 42 (0, 0)) := alloc_at wo _
        have f0 : (wo.alloc (.cells #[.int .i64 kind, .int .i64 id, .slice pA ps.length pc] 42)).cell? ⟨wo.heap.size, 0, none⟩ = some (.int .i64 kind) := by rw [cell_of_row _ (wo.heap.size) 0 _ _ (0, 0) hbo]; rfl
        have f1 : (wo.alloc (.cells #[.int .i64 kind, .int .i64 id, .slice pA ps.length pc] 42)).cell? ⟨wo.heap.size, 1, none⟩ = some (.int .i64 id) := by rw [cell_of_row _ (wo.heap.size) 1 _ _ (0, 0) hbo]; rfl
        have f2 : (wo.alloc (.cells #[.int .i64 kind, .int .i64 id, .slice pA ps.length pc] 42)).cell? ⟨wo.heap.size, 2, none⟩ = some (.slice pA ps.length pc) := by rw [cell_of_row _ (wo.heap.size) 2 _ _ (0, 0) hbo]; rfl
        have hwo := hd.lt
        have hbw : w1.heap.size < wo.heap.size := by obtain ⟨_, _, _, _, _, p1, _⟩ := hR; exact lt_of_block p1
        have hdA := hd.keep hal nb nb nb
        have hRA := hR.keep hal (fun _ _ _ => nb)
        have hpsA := hps.keep hal nb1
        clear hbo
        have nO : ¬ (wo.heap.size = r1 ∨ wo.heap.size = r2) := by omega
        have nP : ¬ wo.heap.size = w1.heap.size := by omega
        have nR : ∀ q, w1.heap.size ≤ q → ¬ (q = r1 ∨ q = r2) := fun q hq => by omega
        have nW : ∀ i, i < W.heap.size → ¬ (i = r1 ∨ i = r2) := fun i hi => by omega
        have nV : ∀ i, i < W.heap.size → ¬ i = w1.heap.size := fun i hi => by omega
        have n0 : ¬ bd = w1.heap.size := by omega
        have n1 : ¬ r1 = w1.heap.size := by omega
        have n2 : ¬ r2 = w1.heap.size := by omega
        have nO' := Lib.hid nO
        have nP' := Lib.hid nP
        have nR' := Lib.hid nR
        have nW' := Lib.hid nW
        have nV' := Lib.hid nV
        have n012 := Lib.hid (And.intro n0 (And.intro n1 n2))
        clear nO nP nR nW nV n0 n1 n2
        by_cases hp50 : 50 < ps.length
        · have t3 : decide (50 < ps.length) = true := by simp [hp50]
          have t3' : decide ((50 : Int) < ps.length) = true := by simp; omega
          go_wp2_with fail
          with_reducible refine (awake_calls _).mono ?_
          rintro e w9 ⟨rfl, hx9⟩
          go_wp2_with fail
          go_ret
          exact ⟨rfl, (hext.trans hal (fun _ _ h => h)).trans hx9 (fun _ _ h => h)⟩
        · have t3 : decide (50 < ps.length) = false := by simp; omega
          have t3' : decide ((50 : Int) < ps.length) = false := by simp; omega
          by_cases hk0 : kind = 0
          · have t4 : (kind == 0) = true := by simp [hk0]
            clear hk0
            go_wp2_with fail
            with_reducible refine (addAny id pA pc pb po ps hdA hpsA (by omega) hid).mono ?_
            rintro e wa ⟨n, er, E', rfl, hAE, hdB, hxa⟩
            have f1a := hxa.cell f1 nO'.out
            have f2a := hxa.cell f2 nO'.out
            have hRB := hRA.keep hxa (fun q hq _ => nR'.out q hq)
            have hpsB := hpsA.keep hxa (fun hp => nW'.out pb (hpb hp))
            go_wp2_with fail
            with_reducible refine (refAdd_calls (w1.heap.size) L id pA pc pb po ps wa hRB hsim.inc hpsB (by omega) (by omega)).mono ?_
            rintro e wb ⟨m, er', L', rfl, hAL, hRC, hxb⟩
            obtain ⟨rfl, rfl, hs2, hM2, hL2⟩ := hsim.both hAE hAL hM (by omega) hLk
            have hdC := hdB.keep hxb n012.out.1 n012.out.2.1 n012.out.2.2
            have fz := hxb.cell f1a nP'.out
            have hxz : Ext NoB W wb := ((hext.trans hal (fun _ _ h => h)).trans hxa (fun i hi e => (nW'.out i hi e).elim)).trans hxb (fun i hi e => (nV'.out i hi e).elim)
            have hN2 : N + ps.length ≤ 50 * (k + 1) := by omega
            clear hAE hAL
            generalize hNN : N + ps.length = N2 at *
            clear hNN
            clear hsim hM hLk hN hd hR hdA hRA hps hpsA f0 f1 f2 e0 e1 e2
            go_wp2_with fail
            go_loopw [11] (fun i wr => ∃ j : Nat, j ≤ 14 ∧ i = .int .i64 j ∧ Ext NoB wb wr) (fun i _ => 14 - (intOf i).toNat)
            case atStart => exact ⟨0, by omega, rfl, Ext.refl _ _⟩
            case round =>
              obtain ⟨j, hj, rfl, hxj⟩ := hrel
              have hdj := hdC.keep hxj nb nb nb
              have hRj := hRC.keep hxj (fun _ _ _ => nb)
              have fj := hxj.cell fz nb
              have hxWj := hxz.trans hxj (fun _ _ h => h)
              by_cases hj14 : j < 14
              · have t6 : decide ((j : Int) < 14) = true := by simp; omega
                have t6' : decide (j < 14) = true := by simp [hj14]
                go_wp2_with fail
                with_reducible refine (waitsS (j : Int) hdj (by omega)).mono ?_
                rintro e u1 ⟨v1, g1, l1, rfl, hO1, hs1, hy1⟩
                obtain ⟨A3, c3, b3, o3, rfl, hr3, _⟩ := hO1.read
                go_wp2_with fail
                with_reducible refine (refWaits_calls (w1.heap.size) L' (j : Int) u1 (hRj.keep hy1 (fun _ _ _ => nb))).mono ?_
                rintro e u2 ⟨v2, rfl, ⟨A4, c4, b4, o4, rfl, hr4, _⟩, rfl⟩
                go_wp2_with fail
                with_reducible refine (sameInts_same A3 A4 c3 c4 b3 o3 b4 o4 l1 (refWaits L' (j : Int)) u2 (hs1.unique (hs2.waits _)) hr3 hr4).mono ?_
                rintro e u3 ⟨rfl, hy3⟩
                have hy13 := hy1.trans hy3 (fun _ _ h => h)
                go_wp2_with fail
                with_reducible refine (behindS (j : Int) (hdj.keep hy13 nb nb nb) (by omega)).mono ?_
                rintro e u4 ⟨v4, g4, l4, rfl, hO4, hs4, hy4⟩
                obtain ⟨A5, c5, b5, o5, rfl, hr5, _⟩ := hO4.read
                go_wp2_with fail
                with_reducible refine (refBehind_calls (w1.heap.size) L' (j : Int) u4 ((hRj.keep hy13 (fun _ _ _ => nb)).keep hy4 (fun _ _ _ => nb)) (by omega)).mono ?_
                rintro e u5 ⟨v5, g5, rfl, hO5, hg5, hy5⟩
                obtain ⟨A6, c6, b6, o6, rfl, hr6, _⟩ := hO5.read
                go_wp2_with fail
                with_reducible refine (sameInts_same A5 A6 c5 c6 b5 o5 b6 o6 l4 (refBehind L' (j : Int)) u5 (hs4.unique (hs2.behind _)) (hr5.keep hy5 nb1) hr6).mono ?_
                rintro e u6 ⟨rfl, hy6⟩
                go_wp2_with fail
                go_roundw
                case rel => exact ⟨j + 1, by omega, by go_num, (((hxj.trans hy13 (fun _ _ h => h)).trans hy4 (fun _ _ h => h)).trans hy5 (fun _ _ h => h)).trans hy6 (fun _ _ h => h)⟩
                case measure => simp [intOf]; omega
              · have t6 : decide ((j : Int) < 14) = false := by simp; omega
                have t6' : decide (j < 14) = false := by simp; omega
                have hdd := hdj.keep (Ext.refl NoB wr).drew nb nb nb
                have hRd := hRj.keep (Ext.refl NoB wr).drew (fun _ _ _ => nb)
                obtain ⟨A7, c7, b7, o7, rows7, p1, p2, p3, p4, p5⟩ := hRj
                have fw : wr.cell? ⟨w1.heap.size, 0, none⟩ = some (.slice A7 L'.length c7) := by rw [cell_of_row wr (w1.heap.size) 0 _ _ (0, 0) p1, p4]; rfl
                clear p1 p2 p3 p4 p5
                go_wp2_with fail
                go_region_held3 (fun w' => w'.cell? ⟨wo.heap.size, 1, none⟩ = some (.int .i64 id) ∧ w'.cell? ⟨w1.heap.size, 0, none⟩ = some (.slice A7 L'.length c7)) (first
                  | exact ⟨fj, fw⟩
                  | exact ⟨hy1.cell fj nb, hy1.cell fw nb⟩
                  | exact ⟨hy3.cell (hy1.cell fj nb) nb, hy3.cell (hy1.cell fw nb) nb⟩) (first
                  | (go_at_call 12; (with_reducible refine (lenSame hdd hs2).mono ?_); rintro e u0 ⟨rfl, rfl⟩)
                  | (go_at_call 19; (with_reducible refine (waitsS id hdd (by omega)).mono ?_); rintro e u1 ⟨v1, g1, l1, rfl, hO1, hs1, hy1⟩; obtain ⟨A3, c3, b3, o3, rfl, hr3, hg3⟩ := hO1.read)
                  | (go_at_call 20; (with_reducible refine (refWaits_calls (w1.heap.size) L' id u1 (hRd.keep hy1 (fun _ _ _ => nb))).mono ?_); rintro e u2 ⟨v2, rfl, ⟨A4, c4, b4, o4, rfl, hr4, hg4⟩, rfl⟩)
                  | (go_at_call 11; (with_reducible refine (sameInts_same A3 A4 c3 c4 b3 o3 b4 o4 l1 (refWaits L' id) _ (hs1.unique (hs2.waits id)) hr3 hr4).mono ?_); rintro e u3 ⟨rfl, hy3⟩))
                go_wp2_with fail
                go_roundw
                case rel => exact ⟨k + 1, N2, E', L', by omega, by omega, by go_num, (hdd.keep hy1 nb nb nb).keep hy3 nb nb nb, (hRd.keep hy1 (fun _ _ _ => nb)).keep hy3 (fun _ _ _ => nb), hs2, hN2, hM2, hL2, ((hxWj.trans (Ext.refl NoB wr).drew (fun _ _ h => h)).trans hy1 (fun _ _ h => h)).trans hy3 (fun _ _ h => h)⟩
                case measure => simp [intOf]; omega
          · have t4 : (kind == 0) = false := by simp [hk0]
            clear hk0
            by_cases hk1 : kind = 1
            · have t5 : (kind == 1) = true := by simp [hk1]
              clear hk1
              go_wp2_with fail
              go_region_held3 (fun w' => w'.cell? ⟨wo.heap.size, 1, none⟩ = some (.int .i64 id)) (first
                | exact f1
                | exact hxb.cell (hxa.cell f1 nO'.out) nP'.out
                | exact hxa.cell f1 nO'.out
                | exact hxc.cell (hxb.cell (hxa.cell f1 nO'.out) nP'.out) nb) (first
                | (go_at_call 10; (with_reducible refine (doneS id (hdA.keep (Ext.refl NoB _).drew nb nb nb) (by omega)).mono ?_); rintro e wa ⟨va, ga, la, rfl, hOa, hsa, hla, hdB, hxa, hga⟩; obtain ⟨A1, c1, b1, o1, rfl, hra, hgra⟩ := hOa.read; have hRB := (hRA.keep (Ext.refl NoB _).drew (fun _ _ _ => nb)).keep hxa (fun q hq _ => nR'.out q hq))
                | (go_at_call 17; (with_reducible refine (refDone_calls (w1.heap.size) L id wa hRB (by omega) (fun l hl => by have := hM l hl; omega)).mono ?_); rintro e wb ⟨vb, gb, rfl, hOb, hgb, hRb, hxb⟩; obtain ⟨A2, c2, b2, o2, rfl, hrb, hgrb⟩ := hOb.read; have hraB := hra.keep hxb (fun hp e => by have := hga b1 (hgra hp); simp at this; omega))
                | (go_at_call 11; (with_reducible refine (sameInts_same A1 A2 c1 c2 b1 o1 b2 o2 la (refDoneOut id L) wb (hsa.unique (hsim.done_out id)) hraB hrb).mono ?_); rintro e wc ⟨rfl, hxc⟩))
              have hdC := (hdB.keep hxb n012.out.1 n012.out.2.1 n012.out.2.2).keep hxc nb nb nb
              have hRC := hRb.keep hxc (fun _ _ _ => nb)
              have fz := hxc.cell (hxb.cell (hxa.cell f1 nO'.out) nP'.out) nb
              have hxz : Ext NoB W wc := (((hext.trans hal.drew (fun _ _ h => h)).trans hxa (fun i hi e => (nW'.out i hi e).elim)).trans hxb (fun i hi e => (nV'.out i hi e).elim)).trans hxc (fun _ _ h => h)
              have hs2 := hsim.done id
              have hM2 := (done_len id hM).1
              have hL2 : (refDoneRest id L).length ≤ k + 1 := by have := (done_len id hM).2; omega
              have hN2 : N ≤ 50 * (k + 1) := by omega
              generalize refDoneRest id L = L' at *
              clear hra hrb hraB hOa hOb hsa hgra hgrb hga hgb
              clear hsim hM hLk hN hd hR hdA hRA hps hpsA f0 f1 f2 e0 e1 e2
              go_wp2_with fail
              go_loopw [11] (fun i wr => ∃ j : Nat, j ≤ 14 ∧ i = .int .i64 j ∧ Ext NoB wc wr) (fun i _ => 14 - (intOf i).toNat)
              case atStart => exact ⟨0, by omega, rfl, Ext.refl _ _⟩
              case round =>
                obtain ⟨j, hj, rfl, hxj⟩ := hrel
                have hdj := hdC.keep hxj nb nb nb
                have hRj := hRC.keep hxj (fun _ _ _ => nb)
                have fj := hxj.cell fz nb
                have hxWj := hxz.trans hxj (fun _ _ h => h)
                by_cases hj14 : j < 14
                · have t6 : decide ((j : Int) < 14) = true := by simp; omega
                  have t6' : decide (j < 14) = true := by simp [hj14]
                  go_wp2_with fail
                  with_reducible refine (waitsS (j : Int) hdj (by omega)).mono ?_
                  rintro e u1 ⟨v1, g1, l1, rfl, hO1, hs1, hy1⟩
                  obtain ⟨A3, c3, b3, o3, rfl, hr3, _⟩ := hO1.read
                  go_wp2_with fail
                  with_reducible refine (refWaits_calls (w1.heap.size) L' (j : Int) u1 (hRj.keep hy1 (fun _ _ _ => nb))).mono ?_
                  rintro e u2 ⟨v2, rfl, ⟨A4, c4, b4, o4, rfl, hr4, _⟩, rfl⟩
                  go_wp2_with fail
                  with_reducible refine (sameInts_same A3 A4 c3 c4 b3 o3 b4 o4 l1 (refWaits L' (j : Int)) u2 (hs1.unique (hs2.waits _)) hr3 hr4).mono ?_
                  rintro e u3 ⟨rfl, hy3⟩
                  have hy13 := hy1.trans hy3 (fun _ _ h => h)
                  go_wp2_with fail
                  with_reducible refine (behindS (j : Int) (hdj.keep hy13 nb nb nb) (by omega)).mono ?_
                  rintro e u4 ⟨v4, g4, l4, rfl, hO4, hs4, hy4⟩
                  obtain ⟨A5, c5, b5, o5, rfl, hr5, _⟩ := hO4.read
                  go_wp2_with fail
                  with_reducible refine (refBehind_calls (w1.heap.size) L' (j : Int) u4 ((hRj.keep hy13 (fun _ _ _ => nb)).keep hy4 (fun _ _ _ => nb)) (by omega)).mono ?_
                  rintro e u5 ⟨v5, g5, rfl, hO5, hg5, hy5⟩
                  obtain ⟨A6, c6, b6, o6, rfl, hr6, _⟩ := hO5.read
                  go_wp2_with fail
                  with_reducible refine (sameInts_same A5 A6 c5 c6 b5 o5 b6 o6 l4 (refBehind L' (j : Int)) u5 (hs4.unique (hs2.behind _)) (hr5.keep hy5 nb1) hr6).mono ?_
                  rintro e u6 ⟨rfl, hy6⟩
                  go_wp2_with fail
                  go_roundw
                  case rel => exact ⟨j + 1, by omega, by go_num, (((hxj.trans hy13 (fun _ _ h => h)).trans hy4 (fun _ _ h => h)).trans hy5 (fun _ _ h => h)).trans hy6 (fun _ _ h => h)⟩
                  case measure => simp [intOf]; omega
                · have t6 : decide ((j : Int) < 14) = false := by simp; omega
                  have t6' : decide (j < 14) = false := by simp; omega
                  have hdd := hdj.keep (Ext.refl NoB wr).drew nb nb nb
                  have hRd := hRj.keep (Ext.refl NoB wr).drew (fun _ _ _ => nb)
                  obtain ⟨A7, c7, b7, o7, rows7, p1, p2, p3, p4, p5⟩ := hRj
                  have fw : wr.cell? ⟨w1.heap.size, 0, none⟩ = some (.slice A7 L'.length c7) := by rw [cell_of_row wr (w1.heap.size) 0 _ _ (0, 0) p1, p4]; rfl
                  clear p1 p2 p3 p4 p5
                  go_wp2_with fail
                  go_region_held3 (fun w' => w'.cell? ⟨wo.heap.size, 1, none⟩ = some (.int .i64 id) ∧ w'.cell? ⟨w1.heap.size, 0, none⟩ = some (.slice A7 L'.length c7)) (first
                    | exact ⟨fj, fw⟩
                    | exact ⟨hy1.cell fj nb, hy1.cell fw nb⟩
                    | exact ⟨hy3.cell (hy1.cell fj nb) nb, hy3.cell (hy1.cell fw nb) nb⟩) (first
                    | (go_at_call 12; (with_reducible refine (lenSame hdd hs2).mono ?_); rintro e u0 ⟨rfl, rfl⟩)
                    | (go_at_call 19; (with_reducible refine (waitsS id hdd (by omega)).mono ?_); rintro e u1 ⟨v1, g1, l1, rfl, hO1, hs1, hy1⟩; obtain ⟨A3, c3, b3, o3, rfl, hr3, hg3⟩ := hO1.read)
                    | (go_at_call 20; (with_reducible refine (refWaits_calls (w1.heap.size) L' id u1 (hRd.keep hy1 (fun _ _ _ => nb))).mono ?_); rintro e u2 ⟨v2, rfl, ⟨A4, c4, b4, o4, rfl, hr4, hg4⟩, rfl⟩)
                    | (go_at_call 11; (with_reducible refine (sameInts_same A3 A4 c3 c4 b3 o3 b4 o4 l1 (refWaits L' id) _ (hs1.unique (hs2.waits id)) hr3 hr4).mono ?_); rintro e u3 ⟨rfl, hy3⟩))
                  go_wp2_with fail
                  go_roundw
                  case rel => exact ⟨k + 1, N, _, L', by omega, by omega, by go_num, (hdd.keep hy1 nb nb nb).keep hy3 nb nb nb, (hRd.keep hy1 (fun _ _ _ => nb)).keep hy3 (fun _ _ _ => nb), hs2, hN2, hM2, hL2, ((hxWj.trans (Ext.refl NoB wr).drew (fun _ _ h => h)).trans hy1 (fun _ _ h => h)).trans hy3 (fun _ _ h => h)⟩
                  case measure => simp [intOf]; omega
            · have t5 : (kind == 1) = false := by simp [hk1]
              clear hk1
              go_wp2_with fail
              go_region_held3 (fun w' => w'.cell? ⟨wo.heap.size, 1, none⟩ = some (.int .i64 id)) (first
                | exact f1
                | exact hxb.cell (hxa.cell f1 nO'.out) nP'.out
                | exact hxa.cell f1 nO'.out
                | exact hxc.cell (hxb.cell (hxa.cell f1 nO'.out) nP'.out) nb) (first
                | (go_at_call 14; (with_reducible refine (killS id hid (hdA.keep (Ext.refl NoB _).drew nb nb nb) (by omega)).mono ?_); rintro e wa ⟨va, ga, la, rfl, hOa, hsa, hla, hdB, hxa, hga⟩; obtain ⟨A1, c1, b1, o1, rfl, hra, hgra⟩ := hOa.read; have hRB := (hRA.keep (Ext.refl NoB _).drew (fun _ _ _ => nb)).keep hxa (fun q hq _ => nR'.out q hq))
                | (go_at_call 18; (with_reducible refine (refKill_calls (w1.heap.size) L id wa hRB (by omega)).mono ?_); rintro e wb ⟨vb, gb, lb, rfl, hOb, hsb, hgb, hRb, hxb⟩; obtain ⟨A2, c2, b2, o2, rfl, hrb, hgrb⟩ := hOb.read; have hraB := hra.keep hxb (fun hp e => by have := hga b1 (hgra hp); simp at this; omega))
                | (go_at_call 11; (with_reducible refine (sameInts_same A1 A2 c1 c2 b1 o1 b2 o2 la lb wb (hsa.unique (kill_set hsim id hsb (refDead_nd id L).1 (refDead_nd id L).2)) hraB hrb).mono ?_); rintro e wc ⟨rfl, hxc⟩))
              have hdC := (hdB.keep hxb n012.out.1 n012.out.2.1 n012.out.2.2).keep hxc nb nb nb
              have hRC := hRb.keep hxc (fun _ _ _ => nb)
              have fz := hxc.cell (hxb.cell (hxa.cell f1 nO'.out) nP'.out) nb
              have hxz : Ext NoB W wc := (((hext.trans hal.drew (fun _ _ h => h)).trans hxa (fun i hi e => (nW'.out i hi e).elim)).trans hxb (fun i hi e => (nV'.out i hi e).elim)).trans hxc (fun _ _ h => h)
              have hs2 := hsim.kill id
              have hM2 : ∀ l ∈ L.filter (fun l => !decide (l.1 ∈ refDead id L)), l.2.length ≤ 50 := fun l hl => hM l (List.mem_filter.1 hl).1
              have hL2 : (L.filter (fun l => !decide (l.1 ∈ refDead id L))).length ≤ k + 1 := by have := List.length_filter_le (fun l => !decide (l.1 ∈ refDead id L)) L; omega
              have hN2 : N ≤ 50 * (k + 1) := by omega
              generalize L.filter (fun l => !decide (l.1 ∈ refDead id L)) = L' at *
              clear hra hrb hraB hOa hOb hsa hsb hgra hgrb hga hgb
              clear hsim hM hLk hN hd hR hdA hRA hps hpsA f0 f1 f2 e0 e1 e2
              go_wp2_with fail
              go_loopw [11] (fun i wr => ∃ j : Nat, j ≤ 14 ∧ i = .int .i64 j ∧ Ext NoB wc wr) (fun i _ => 14 - (intOf i).toNat)
              case atStart => exact ⟨0, by omega, rfl, Ext.refl _ _⟩
              case round =>
                obtain ⟨j, hj, rfl, hxj⟩ := hrel
                have hdj := hdC.keep hxj nb nb nb
                have hRj := hRC.keep hxj (fun _ _ _ => nb)
                have fj := hxj.cell fz nb
                have hxWj := hxz.trans hxj (fun _ _ h => h)
                by_cases hj14 : j < 14
                · have t6 : decide ((j : Int) < 14) = true := by simp; omega
                  have t6' : decide (j < 14) = true := by simp [hj14]
                  go_wp2_with fail
                  with_reducible refine (waitsS (j : Int) hdj (by omega)).mono ?_
                  rintro e u1 ⟨v1, g1, l1, rfl, hO1, hs1, hy1⟩
                  obtain ⟨A3, c3, b3, o3, rfl, hr3, _⟩ := hO1.read
                  go_wp2_with fail
                  with_reducible refine (refWaits_calls (w1.heap.size) L' (j : Int) u1 (hRj.keep hy1 (fun _ _ _ => nb))).mono ?_
                  rintro e u2 ⟨v2, rfl, ⟨A4, c4, b4, o4, rfl, hr4, _⟩, rfl⟩
                  go_wp2_with fail
                  with_reducible refine (sameInts_same A3 A4 c3 c4 b3 o3 b4 o4 l1 (refWaits L' (j : Int)) u2 (hs1.unique (hs2.waits _)) hr3 hr4).mono ?_
                  rintro e u3 ⟨rfl, hy3⟩
                  have hy13 := hy1.trans hy3 (fun _ _ h => h)
                  go_wp2_with fail
                  with_reducible refine (behindS (j : Int) (hdj.keep hy13 nb nb nb) (by omega)).mono ?_
                  rintro e u4 ⟨v4, g4, l4, rfl, hO4, hs4, hy4⟩
                  obtain ⟨A5, c5, b5, o5, rfl, hr5, _⟩ := hO4.read
                  go_wp2_with fail
                  with_reducible refine (refBehind_calls (w1.heap.size) L' (j : Int) u4 ((hRj.keep hy13 (fun _ _ _ => nb)).keep hy4 (fun _ _ _ => nb)) (by omega)).mono ?_
                  rintro e u5 ⟨v5, g5, rfl, hO5, hg5, hy5⟩
                  obtain ⟨A6, c6, b6, o6, rfl, hr6, _⟩ := hO5.read
                  go_wp2_with fail
                  with_reducible refine (sameInts_same A5 A6 c5 c6 b5 o5 b6 o6 l4 (refBehind L' (j : Int)) u5 (hs4.unique (hs2.behind _)) (hr5.keep hy5 nb1) hr6).mono ?_
                  rintro e u6 ⟨rfl, hy6⟩
                  go_wp2_with fail
                  go_roundw
                  case rel => exact ⟨j + 1, by omega, by go_num, (((hxj.trans hy13 (fun _ _ h => h)).trans hy4 (fun _ _ h => h)).trans hy5 (fun _ _ h => h)).trans hy6 (fun _ _ h => h)⟩
                  case measure => simp [intOf]; omega
                · have t6 : decide ((j : Int) < 14) = false := by simp; omega
                  have t6' : decide (j < 14) = false := by simp; omega
                  have hdd := hdj.keep (Ext.refl NoB wr).drew nb nb nb
                  have hRd := hRj.keep (Ext.refl NoB wr).drew (fun _ _ _ => nb)
                  obtain ⟨A7, c7, b7, o7, rows7, p1, p2, p3, p4, p5⟩ := hRj
                  have fw : wr.cell? ⟨w1.heap.size, 0, none⟩ = some (.slice A7 L'.length c7) := by rw [cell_of_row wr (w1.heap.size) 0 _ _ (0, 0) p1, p4]; rfl
                  clear p1 p2 p3 p4 p5
                  go_wp2_with fail
                  go_region_held3 (fun w' => w'.cell? ⟨wo.heap.size, 1, none⟩ = some (.int .i64 id) ∧ w'.cell? ⟨w1.heap.size, 0, none⟩ = some (.slice A7 L'.length c7)) (first
                    | exact ⟨fj, fw⟩
                    | exact ⟨hy1.cell fj nb, hy1.cell fw nb⟩
                    | exact ⟨hy3.cell (hy1.cell fj nb) nb, hy3.cell (hy1.cell fw nb) nb⟩) (first
                    | (go_at_call 12; (with_reducible refine (lenSame hdd hs2).mono ?_); rintro e u0 ⟨rfl, rfl⟩)
                    | (go_at_call 19; (with_reducible refine (waitsS id hdd (by omega)).mono ?_); rintro e u1 ⟨v1, g1, l1, rfl, hO1, hs1, hy1⟩; obtain ⟨A3, c3, b3, o3, rfl, hr3, hg3⟩ := hO1.read)
                    | (go_at_call 20; (with_reducible refine (refWaits_calls (w1.heap.size) L' id u1 (hRd.keep hy1 (fun _ _ _ => nb))).mono ?_); rintro e u2 ⟨v2, rfl, ⟨A4, c4, b4, o4, rfl, hr4, hg4⟩, rfl⟩)
                    | (go_at_call 11; (with_reducible refine (sameInts_same A3 A4 c3 c4 b3 o3 b4 o4 l1 (refWaits L' id) _ (hs1.unique (hs2.waits id)) hr3 hr4).mono ?_); rintro e u3 ⟨rfl, hy3⟩))
                  go_wp2_with fail
                  go_roundw
                  case rel => exact ⟨k + 1, N, _, L', by omega, by omega, by go_num, (hdd.keep hy1 nb nb nb).keep hy3 nb nb nb, (hRd.keep hy1 (fun _ _ _ => nb)).keep hy3 (fun _ _ _ => nb), hs2, hN2, hM2, hL2, ((hxWj.trans (Ext.refl NoB wr).drew (fun _ _ h => h)).trans hy1 (fun _ _ h => h)).trans hy3 (fun _ _ h => h)⟩
                  case measure => simp [intOf]; omega
      · have t1 : decide (k < vs.length) = true := by simp [hlt]
        have t2 : decide ((k : Int) < 50) = false := by simp; omega
        have t2' : decide (k < 50) = false := by simp; omega
        go_wp2_with fail
        with_reducible refine (awake_calls _).mono ?_
        rintro e w9 ⟨rfl, hx9⟩
        go_wp2_with fail
        go_ret
        exact ⟨rfl, hext.trans hx9 (fun _ _ h => h)⟩
    · have t1 : decide (k < vs.length) = false := by simp; omega
      go_wp2_with fail
      with_reducible refine (awake_calls _).mono ?_
      rintro e w9 ⟨rfl, hx9⟩
      go_wp2_with fail
      go_ret
      exact ⟨rfl, hext.trans hx9 (fun _ _ h => h)⟩

end Go.Proofs.Ytolihdcfhonfgaa
