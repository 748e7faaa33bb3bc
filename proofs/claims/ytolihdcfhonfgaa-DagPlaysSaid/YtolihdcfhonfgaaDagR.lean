/- The contracts of package dag, told by who waits for whom. -/
import Derived.Test.YtolihdcfhonfgaaProg
import Derived.Test.YtolihdcfhonfgaaDagQ
namespace Go.Proofs.Ytolihdcfhonfgaa
open Go.RowKit
set_option linter.unusedSimpArgs false
set_option linter.unusedVariables false

def InR (x : Int) : Prop := (Lit.int .i64 x).wf = true
theorem inR_of {x : Int} (h1 : -9223372036854775808 ≤ x) (h2 : x ≤ 9223372036854775807) : InR x := by
  unfold InR Lit.wf
  simp [IntKind.min, IntKind.max, IntKind.bits, IntKind.signed]
  omega

/-- A Dag in which 'E p x' says that x waits for p; at most N pairs. -/
structure DagS (w : World) (b r1 r2 : Nat) (E : Int → Int → Prop) (N : Nat) : Prop where
  ex : ∃ ps ns, DagAt w b r1 r2 ps ns ∧ Inv ps ns ∧ (∀ p x, Ed ps p x ↔ E p x) ∧ ps.length ≤ N
  rng : ∀ p x, E p x → InR x

theorem DagS.congr {w : World} {b r1 r2 N M : Nat} {E E' : Int → Int → Prop} (h : DagS w b r1 r2 E N) (he : ∀ p x, E p x ↔ E' p x) (hN : N ≤ M) : DagS w b r1 r2 E' M := by
  obtain ⟨⟨ps, ns, h1, h2, h3, h4⟩, h5⟩ := h
  exact ⟨⟨ps, ns, h1, h2, fun p x => (h3 p x).trans (he p x), Nat.le_trans h4 hN⟩, fun p x hx => h5 p x ((he p x).2 hx)⟩
theorem DagS.keep {F : Nat → Prop} {w w' : World} {b r1 r2 N : Nat} {E : Int → Int → Prop} (h : DagS w b r1 r2 E N) (x : Ext F w w') (h0 : ¬ F b) (h1 : ¬ F r1) (h2 : ¬ F r2) : DagS w' b r1 r2 E N := by
  obtain ⟨⟨ps, ns, g1, g2⟩, g5⟩ := h
  exact ⟨⟨ps, ns, g1.keep x h0 h1 h2, g2⟩, g5⟩
theorem DagS.lt {w : World} {b r1 r2 N : Nat} {E : Int → Int → Prop} (h : DagS w b r1 r2 E N) : b < w.heap.size ∧ r1 < w.heap.size ∧ r2 < w.heap.size := by
  obtain ⟨⟨ps, ns, g1, g2⟩, g5⟩ := h
  exact ⟨lt_of_block g1.blk, g1.m1.lt, g1.m2.lt⟩

theorem newS (w : World) : Calls Try.prog 8 #[] w fun e w' =>
    ∃ b r1 r2, e = .returned (.pointer (some ⟨b, 0, none⟩)) ∧ DagS w' b r1 r2 (fun _ _ => False) 0 ∧ Ext NoB w w' ∧ w.heap.size ≤ b ∧ w.heap.size ≤ r1 ∧ w.heap.size ≤ r2 :=
  (new_calls w).mono fun e w' ⟨b, r1, r2, he, hd, hx, h⟩ => ⟨b, r1, r2, he, ⟨⟨[], [], hd, inv_nil, by simp [Ed], Nat.le_refl _⟩, fun _ _ h => h.elim⟩, hx, h⟩

theorem addS {w : World} {b r1 r2 N : Nat} {E : Int → Int → Prop} (id : Int) (A : Option Addr) (c sb so : Nat) (preds : List Int) (h : DagS w b r1 r2 E N) (hs : SlR w 1 intE A c sb so preds) (hN : N + preds.length ≤ 900000)
    (h1 : 1 ≤ id) (hr : InR id) (hp : ∀ p ∈ preds, 1 ≤ p ∧ p < id) (hno : ∀ p, ¬ E p id) :
    Calls Try.prog 9 #[.pointer (some ⟨b, 0, none⟩), .int .i64 id, .slice A preds.length c] w fun e w' =>
      ∃ n : Int, e = .returned (.tuple #[.int .i64 n, .int .i64 0]) ∧ (∀ l : List Int, l.Nodup → (∀ p, p ∈ l ↔ p ∈ preds) → n = l.length) ∧ DagS w' b r1 r2 (fun p x => E p x ∨ (p ∈ preds ∧ x = id)) (N + preds.length) ∧ Ext (fun k => k = r1 ∨ k = r2) w w' := by
  obtain ⟨⟨ps, ns, g1, g2, g3, g4⟩, g5⟩ := h
  refine (add_calls b r1 r2 ps ns id A c sb so preds w g1 hs).mono fun e w' ⟨he, hd, hx⟩ => ?_
  have hbad : preds.any (addBad id) = false := by
    rw [List.any_eq_false]
    intro p hpp
    have := hp p hpp
    simp [addBad]; omega
  have hnone : mget ns id = none := by
    rw [g2.num, if_pos]
    exact cnt_zero.2 (fun p hpe => hno p ((g3 p id).1 hpe))
  have hv : dagAdd (ps, ns) id preds = ((mget (preds.foldl (addStep id) (ps, ns)).2 id).getD 0, 0, preds.foldl (addStep id) (ps, ns)) := by
    unfold dagAdd
    rw [if_neg (by simp [hbad]; omega), if_neg (by simp [hnone])]
  obtain ⟨f1, f2, f3⟩ := add_fold id preds ps ns g2 (by omega)
  rw [hv] at he hd
  refine ⟨_, he, ?_, ⟨⟨_, _, hd, f1, fun p x => by rw [f2, g3], Nat.le_trans f3 (by omega)⟩, ?_⟩, hx⟩
  · intro l hl hm
    rw [f1.num]
    have hc : cnt (preds.foldl (addStep id) (ps, ns)).1 id = l.length := cnt_list f1.nd hl (fun p => by
      rw [hm, f2]
      exact ⟨fun a => .inr ⟨a, rfl⟩, fun a => a.elim (fun a => absurd ((g3 p id).1 a) (hno p)) (·.1)⟩)
    rw [hc]
    by_cases h0 : l.length = 0 <;> simp [h0]
  · rintro p x (a | ⟨_, rfl⟩)
    · exact g5 p x a
    · exact hr

theorem doneS {w : World} {b r1 r2 N : Nat} {E : Int → Int → Prop} (id : Int) (h : DagS w b r1 r2 E N) (hN : N ≤ 900000) :
    Calls Try.prog 10 #[.pointer (some ⟨b, 0, none⟩), .int .i64 id] w fun e w' =>
      ∃ v g l, e = .returned v ∧ SlO w' 3 1 intE g v l ∧ SetList l (fun x => E id x ∧ ∀ q, E q x → q = id) ∧ l.length ≤ N ∧ DagS w' b r1 r2 (fun p x => E p x ∧ p ≠ id) N ∧ Ext (fun k => k = r1 ∨ k = r2) w w' ∧ (∀ q, g = some q → w.heap.size ≤ q) := by
  obtain ⟨⟨ps, ns, g1, g2, g3, g4⟩, g5⟩ := h
  refine (done_calls b r1 r2 ps ns id w g1 (by omega)).mono fun e w' ⟨v, g, he, hO, hd, hx, hg⟩ => ?_
  obtain ⟨f1, f2, f3, f4⟩ := done_spec g2 (by omega) id
  refine ⟨v, g, _, he, hO, f4.congr (fun x => by simp only [g3]), ?_, ⟨⟨_, _, hd, f1, fun p x => by rw [f2, g3], by omega⟩, fun p x hh => g5 p x hh.1⟩, hx, hg⟩
  have hs0 := side0_set g2.nd id
  have := nodup_sub_length _ (sideOf 0 id ps) (lt_nodup f4.1) (fun x hx => (hs0.2 x).2 ((f4.2 x).1 hx).1)
  have h2 := sideOf_len 0 id ps
  omega

theorem killS {w : World} {b r1 r2 N : Nat} {E : Int → Int → Prop} (id : Int) (hid : InR id) (h : DagS w b r1 r2 E N) (hN : N ≤ 900000) :
    Calls Try.prog 14 #[.pointer (some ⟨b, 0, none⟩), .int .i64 id] w fun e w' =>
      ∃ v g l, e = .returned v ∧ SlO w' 3 1 intE g v l ∧ SetList l (fun x => Rch E id x ∧ x ≠ id) ∧ l.length ≤ 1000000 ∧ DagS w' b r1 r2 (fun p x => E p x ∧ ¬ Rch E id x) N ∧ Ext (fun k => k = r1 ∨ k = r2) w w' ∧ (∀ q, g = some q → w.heap.size ≤ q) := by
  obtain ⟨⟨ps, ns, g1, g2, g3, g4⟩, g5⟩ := h
  have hE : Ed ps = E := by funext p x; exact propext (g3 p x)
  obtain ⟨f, psF, nsF, gF, hr, k1, k2, k3, k4, k5, k6⟩ := kill_spec g2 (by omega) id
  rw [hE] at k2 k5 k6
  have hw : ∀ p ∈ gF, (Lit.int .i64 p.1).wf = true := by
    intro p hp
    cases k5 p hp with
    | refl => exact hid
    | step _ he => exact g5 _ _ he
  refine (kill_calls b r1 r2 ps ns id w g1 (by omega) f psF nsF gF hr (by omega) hw).mono fun e w' ⟨v, g, he, hO, hd, hx, hg⟩ => ?_
  refine ⟨v, g, _, he, hO, k6, ?_, ⟨⟨_, _, hd, k1, k2, by omega⟩, fun p x hh => g5 p x hh.1⟩, hx, hg⟩
  rw [sortI_length, List.length_map]
  exact Nat.le_trans (List.length_filter_le _ _) k4

theorem lenS {w : World} {b r1 r2 N : Nat} {E : Int → Int → Prop} (h : DagS w b r1 r2 E N) :
    Calls Try.prog 12 #[.pointer (some ⟨b, 0, none⟩)] w fun e w' => ∃ n : Int, e = .returned (.int .i64 n) ∧ (∀ l : List Int, l.Nodup → (∀ x, x ∈ l ↔ ∃ p, E p x) → n = l.length) ∧ w = w' := by
  obtain ⟨⟨ps, ns, g1, g2, g3, g4⟩, g5⟩ := h
  refine (len_calls b r1 r2 ps ns w g1).mono fun e w' ⟨he, hw⟩ => ⟨_, he, fun l hl hm => ?_, hw⟩
  rw [len_spec g2 hl (fun x => by rw [hm]; simp only [g3])]

/-! ### SameInts -/
theorem sameInts_calls (A B : Option Addr) (c d b o b' o' : Nat) (xs ys : List Int) (w : World) (hx : SlR w 1 intE A c b o xs) (hy : SlR w 1 intE B d b' o' ys) :
    Calls Try.prog 11 #[.slice A xs.length c, .slice B ys.length d] w fun e w' => e = .returned (.bool (decide (xs = ys))) ∧ Ext NoB w w' := by
  have h1 := hx.le
  have h2 := hx.max
  have h3 := hy.le
  have h4 := hy.max
  unfold maxLen at h2 h4
  by_cases hl : xs.length = ys.length
  · have hl1 : ((xs.length : Int) != ys.length) = false := by simp [hl]
    have hl' := Lib.hid hl
    clear hl
    go_enter Try.func11, Try.ntmps11
    go_wp2_with fail
    go_loopw [5] (fun i wr => ∃ k : Nat, k ≤ xs.length ∧ i = .int .i64 k ∧ Hid (xs.take k = ys.take k) ∧ Ext NoB w wr) (fun i _ => xs.length - (intOf i).toNat)
    case atStart => exact ⟨0, Nat.zero_le _, rfl, rfl, Ext.refl _ _⟩
    case round =>
      obtain ⟨k, hk, rfl, htk, hext⟩ := hrel
      by_cases hlt : k < xs.length
      · have hlt2 : k < ys.length := by rw [← hl'.out]; exact hlt
        obtain rfl := hx.addr (by omega)
        obtain rfl := hy.addr (by omega)
        have c1 := (hx.keep hext nb1).intCell k hlt
        have c2 := (hy.keep hext nb1).intCell k hlt2
        have hxk := List.take_succ_eq_append_getElem hlt
        have hyk := List.take_succ_eq_append_getElem hlt2
        have hxe : xs[k]? = some xs[k] := List.getElem?_eq_getElem hlt
        have hye : ys[k]? = some ys[k] := List.getElem?_eq_getElem hlt2
        have H1 := Lib.hid hxk
        have H2 := Lib.hid hyk
        have H3 := Lib.hid hxe
        have H4 := Lib.hid hye
        clear hxk hyk hxe hye
        generalize xs[k] = u at *
        generalize ys[k] = v at *
        by_cases huv : u = v
        · subst huv
          go_wp2_with fail
          go_quiet (fail)
          go_wp2_with fail
          go_roundw
          case rel =>
            refine ⟨k + 1, by omega, by go_num, ?_, hext.drewN _⟩
            show _ = _
            rw [H1.out, H2.out, htk.out]
          case measure => simp [intOf]; omega
        · have hf : Hid (decide (xs = ys) = false) := by
            show _ = _
            rw [decide_eq_false_iff_not]
            rintro rfl
            exact huv (Option.some.inj (H3.out.symm.trans H4.out))
          have huv' : (u != v) = true := by simp [huv]
          have huv2 : (u == v) = false := by simp [huv]
          go_wp2_with fail
          go_quiet (fail)
          go_wp2_with fail
          go_ret
          exact ⟨by rw [hf.out]; rfl, hext.drewN _⟩
      · have hf : Hid (decide (xs = ys) = true) := by
          show _ = _
          rw [decide_eq_true_iff]
          obtain rfl : k = xs.length := by omega
          have := htk.out
          rw [List.take_length, hl'.out, List.take_length] at this
          exact this
        go_wp2_with fail
        go_ret
        exact ⟨by rw [hf.out]; rfl, hext⟩
  · have hl1 : ((xs.length : Int) != ys.length) = true := by simp; omega
    have hf : Hid (decide (xs = ys) = false) := by
      show _ = _
      rw [decide_eq_false_iff_not]
      rintro rfl
      exact hl rfl
    go_enter Try.func11, Try.ntmps11
    go_wp2_with fail
    go_ret
    exact ⟨by rw [hf.out]; rfl, Ext.refl _ _⟩

end Go.Proofs.Ytolihdcfhonfgaa
