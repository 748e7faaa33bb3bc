/- The law WheelFills: the walk. -/
import Derived.Test.YtnobodgjabgikaaProg
import Derived.Test.YtnobodgjabgikaaWhQ
import Derived.Test.YtnobodgjabgikaaBits
namespace Go.Proofs.Ytnobodgjabgikaa
open Go.RowKit Go.Sort
set_option linter.unusedSimpArgs false
set_option linter.unusedVariables false

theorem mdel_len {K V : Type} [DecidableEq K] {x : K} {v : V} : ∀ {m : List (K × V)}, (m.map (·.1)).Nodup → mget m x = some v → (mdel m x).length + 1 = m.length
  | [], _, h => by simp [mget_nil] at h
  | p :: m, hd, h => by
    obtain ⟨h1, h2⟩ := List.nodup_cons.1 (by simpa using hd : (p.1 :: m.map (·.1)).Nodup)
    by_cases hp : p.1 = x
    · have hn : mget m x = none := mget_none.2 (fun q hq e => h1 (by rw [hp, ← e]; exact List.mem_map.2 ⟨q, hq, rfl⟩))
      have : mdel (p :: m) x = mdel m x := by unfold mdel; rw [List.filter_cons_of_neg (by simp [hp])]
      rw [this, mdel_none hn]; rfl
    · rw [mget_cons, if_neg hp] at h
      have : mdel (p :: m) x = p :: mdel m x := by unfold mdel; rw [List.filter_cons_of_pos (by simp [hp])]
      rw [this, List.length_cons, List.length_cons, mdel_len h2 h]

def AddErr (W : Wh) (er : Int) (w : World) (e : Ending) (w' : World) : Prop :=
  ∃ W', e = .returned (.int .i64 er) ∧ Aft W W' w w' ∧ W'.now = W.now ∧ W'.due = W.due
theorem addErr (W : Wh) {b : Nat} (hb : W.b = b) (id : Int) (due : Nat) (er : Int) (w : World) (h : Good w W) (hd : due < 18446744073709551616) (he : addE W.due id = er) (hn : er ≠ 0) :
    Calls Try.prog 10 #[.pointer (some ⟨b, 0, none⟩), .int .i64 id, .int .u64 due] w (AddErr W er w) :=
  (addG W hb id due w h hd).mono fun e w' ⟨W', h1, ha, h2, h3⟩ => ⟨W', by rw [h1, he], ha, h2, by rw [h3]; unfold addD; rw [he, if_neg hn]⟩
def CanYes (W : Wh) (id : Int) (w : World) (e : Ending) (w' : World) : Prop :=
  ∃ W', e = .returned (.bool true) ∧ Aft W W' w w' ∧ W'.now = W.now ∧ W'.due = mdel W.due id
theorem canYes (W : Wh) {b : Nat} (hb : W.b = b) (id : Int) {d : Int} (w : World) (h : Good w W) (hm : mget W.due id = some d) : Calls Try.prog 16 #[.pointer (some ⟨b, 0, none⟩), .int .i64 id] w (CanYes W id w) :=
  (cancelG W hb id w h).mono fun e w' ⟨W', h1, ha, h2, h3⟩ => ⟨W', by rw [h1, hm]; rfl, ha, h2, h3⟩
def CanNo (W : Wh) (w : World) (e : Ending) (w' : World) : Prop :=
  ∃ W', e = .returned (.bool false) ∧ Aft W W' w w' ∧ W'.now = W.now ∧ W'.due = W.due
theorem canNo (W : Wh) {b : Nat} (hb : W.b = b) (id : Int) (w : World) (h : Good w W) (hm : mget W.due id = none) : Calls Try.prog 16 #[.pointer (some ⟨b, 0, none⟩), .int .i64 id] w (CanNo W w) :=
  (cancelG W hb id w h).mono fun e w' ⟨W', h1, ha, h2, h3⟩ => ⟨W', by rw [h1, hm]; rfl, ha, h2, by rw [h3]; exact mdel_none hm⟩

def sqF (i : Nat) : Nat := (i + 1) * (i + 1)
theorem sq_step {k s : Nat} (h1 : 1 ≤ k) (hs : (k : Int) * (k : Int) = (s : Int)) : dueL sqF k = dueL sqF (k - 1) ++ [((k : Int), (s : Int))] := by
  obtain ⟨j, rfl⟩ : ∃ j, k = j + 1 := ⟨k - 1, by omega⟩
  rw [dueL_succ]
  congr 3

set_option maxRecDepth 100000 in
set_option maxHeartbeats 8000000 in
theorem fills_walk (a0 a1 : Int) (w : World) (g0 : (Lit.int .i64 a0).wf = true) (g1 : (Lit.int .i64 a1).wf = true) :
    Calls Try.prog 7 #[.int .i64 a0, .int .i64 a1] w fun e w' => e = .returned (.bool true) ∧ Ext NoB w w' := by
  clear g0 g1
  obtain ⟨m, hm0, hm⟩ : ∃ m : Nat, bits .and .i64 a0 15 = (m : Int) ∧ m ≤ 15 := ⟨(a0 % 16).toNat, by rw [i64_mask a0 15 4 16 (by decide) (by decide) (by decide) (by decide) (by decide)]; omega, by omega⟩
  obtain ⟨r, hr0, hr⟩ : ∃ r : Nat, bits .and .i64 a1 1023 = (r : Int) ∧ r ≤ 1023 := ⟨(a1 % 1024).toNat, by rw [i64_mask a1 1023 10 1024 (by decide) (by decide) (by decide) (by decide) (by decide)]; omega, by omega⟩
  obtain ⟨N, hN⟩ : ∃ N : Nat, (m : Int) + 992 = (N : Int) := ⟨m + 992, by omega⟩
  have hN1 : 992 ≤ N := by omega
  have hN2 : N ≤ 1007 := by omega
  go_enter Try.func7, Try.ntmps7
  go_wp2_with fail
  refine (newG 5 _ (by omega)).mono ?_
  rintro e w1 ⟨WA, rfl, hA, nA, dA, x1, oA⟩
  obtain ⟨ba, hba⟩ : ∃ b, WA.b = b := ⟨_, rfl⟩
  rw [hba]
  have hba' := Lib.hid hba
  have nA' := Lib.hid nA
  have dA' := Lib.hid dA
  clear hba nA dA
  go_wp2_with fail
  go_loopw [6] (fun i wr => ∃ (k : Nat) (A : Wh), 1 ≤ k ∧ k ≤ N + 1 ∧ i = .int .i64 k ∧ Good wr A ∧ Hid (A.b = ba) ∧ Hid (A.due = dueL sqF (min (k - 1) 1000)) ∧ Ext NoB w wr ∧ (∀ q, A.own q → w.heap.size ≤ q)) (fun i _ => N + 1 - (intOf i).toNat)
  case atStart => exact ⟨1, WA, by omega, by omega, rfl, hA, hba', Lib.hid (by rw [dA'.out]; rfl), x1, oA⟩
  case round =>
    clear hA hba' nA' dA' x1 oA
    obtain ⟨k, A, hk1, hk2, rfl, hA, hba, dA, hext, oA⟩ := hrel
    have z0 := hext.size
    by_cases hlt : k ≤ N
    · have t0 : decide (k ≤ N) = true := by simp [hlt]
      have t0' : decide ((k : Int) ≤ (N : Int)) = true := by simp; omega
      obtain ⟨s, hs⟩ : ∃ s : Nat, (k : Int) * (k : Int) = (s : Int) := ⟨k * k, by push_cast; rfl⟩
      have hs1 : s ≤ 1016064 := by
        have h1 : k * k ≤ 1008 * 1008 := Nat.mul_le_mul (by omega) (by omega)
        have h2 : ((k * k : Nat) : Int) = (s : Int) := by rw [← hs]; push_cast; rfl
        omega
      by_cases h10 : k ≤ 1000
      · have t1 : decide (1000 < k) = false := by simp; omega
        have t1' : decide (1000 < (k : Int)) = false := by simp; omega
        have hst := Lib.hid (sq_step hk1 hs)
        rw [show min (k - 1) 1000 = k - 1 by omega] at dA
        go_wp2_with fail
        refine (addOK A hba.out (k : Int) s _ hA (by omega) (by omega) (by rw [dA.out]; exact dueL_none sqF (k - 1) (.inr (by omega))) (by rw [dA.out, dueL_len]; omega)).mono ?_
        rintro e w3 ⟨A', rfl, a3, n3, d3⟩
        have d3' := Lib.hid (show A'.due = dueL sqF (min (k + 1 - 1) 1000) by rw [d3, dA.out, show min (k + 1 - 1) 1000 = k by omega, hst.out])
        clear n3 d3
        go_wp2_with fail
        go_roundw
        case rel =>
          refine ⟨k + 1, A', by omega, by omega, by go_num, a3.good, Lib.hid (a3.b.trans hba.out), d3', hext.trans (F := NoB) a3.ext (fun q h1 h2 => by have := oA q h2; omega), fun q hq => ?_⟩
          rcases a3.own q hq with h | h
          · exact oA q h
          · omega
        case measure => simp [intOf]; omega
      · have t1 : decide (1000 < k) = true := by simp; omega
        have t1' : decide (1000 < (k : Int)) = true := by simp; omega
        rw [show min (k - 1) 1000 = 1000 by omega] at dA
        go_wp2_with fail
        refine (addErr A hba.out (k : Int) s 65 _ hA (by omega) (by rw [dA.out]; unfold addE; rw [if_neg (by omega), dueL_none sqF 1000 (.inr (by omega)), if_neg (by simp), if_pos (by rw [dueL_len]; omega)]) (by decide)).mono ?_
        rintro e w3 ⟨A', rfl, a3, n3, d3⟩
        have d3' := Lib.hid (show A'.due = dueL sqF (min (k + 1 - 1) 1000) by rw [d3, dA.out, show min (k + 1 - 1) 1000 = 1000 by omega])
        clear n3 d3
        go_wp2_with fail
        go_roundw
        case rel =>
          refine ⟨k + 1, A', by omega, by omega, by go_num, a3.good, Lib.hid (a3.b.trans hba.out), d3', hext.trans (F := NoB) a3.ext (fun q h1 h2 => by have := oA q h2; omega), fun q hq => ?_⟩
          rcases a3.own q hq with h | h
          · exact oA q h
          · omega
        case measure => simp [intOf]; omega
    · have t0 : decide (k ≤ N) = false := by simp; omega
      have t0' : decide ((k : Int) ≤ (N : Int)) = false := by simp; omega
      obtain ⟨M, hM, hMN⟩ : ∃ M : Nat, min (N : Int) 1000 = (M : Int) ∧ M = min N 1000 := ⟨min N 1000, by omega, rfl⟩
      rw [show min (k - 1) 1000 = M by omega] at dA
      have hM1 : 992 ≤ M := by omega
      have hM2 : M ≤ 1000 := by omega
      obtain ⟨q, hq, hqM⟩ : ∃ q : Nat, (r : Int) % (M : Int) = (q : Int) ∧ q < M := ⟨r % M, by push_cast; rfl, Nat.mod_lt _ (by omega)⟩
      have hDn := Lib.hid (dueL_nodup sqF M)
      have hDl := Lib.hid (dueL_len sqF M)
      have hq1 := Lib.hid ((dueL_get sqF M ((q : Int) + 1) _).2 ⟨by omega, by omega, rfl⟩)
      have hq2 := Lib.hid (dueL_none sqF M (id := 2000) (.inr (by omega)))
      generalize dueL sqF M = D at *
      generalize ((sqF ((q : Int) + 1 - 1).toNat : Nat) : Int) = dv at *
      clear hMN
      go_wp2_with fail
      refine (lenG A hba.out (n := M) (by rw [dA.out, hDl.out]) _ hA).mono ?_
      rintro e w2 ⟨rfl, rfl⟩
      go_wp2_with fail
      refine (canYes A hba.out ((q : Int) + 1) _ hA (by rw [dA.out]; exact hq1.out)).mono ?_
      rintro e w3 ⟨A3, rfl, a3, n3, d3⟩
      have hlen3 := Lib.hid (show A3.due.length + 1 = M by rw [d3, dA.out]; exact (mdel_len hDn.out hq1.out).trans hDl.out)
      have hnone3 := Lib.hid (show mget A3.due 2000 = none by rw [d3, dA.out, mget_mdel, hq2.out]; split <;> rfl)
      have hba3 := Lib.hid (a3.b.trans hba.out)
      clear n3 d3
      go_wp2_with fail
      refine (addOK A3 hba3.out 2000 3 _ a3.good (by omega) (by omega) hnone3.out (by have := hlen3.out; omega)).mono ?_
      rintro e w4 ⟨A4, rfl, a4, n4, d4⟩
      have hlen4 := Lib.hid (show A4.due.length = M by rw [d4, List.length_append]; exact hlen3.out)
      have hba4 := Lib.hid (a4.b.trans hba3.out)
      clear n4 d4
      go_wp2_with fail
      refine (lenG A4 hba4.out (n := M) hlen4.out _ a4.good).mono ?_
      rintro e w5 ⟨rfl, rfl⟩
      go_wp2_with fail
      refine (addErr A4 hba4.out 0 3 1 _ a4.good (by omega) (by unfold addE; rw [if_pos (by omega)]) (by decide)).mono ?_
      rintro e w6 ⟨A6, rfl, a6, n6, d6⟩
      clear n6 d6
      go_wp2_with fail
      refine (awake_calls _).mono ?_
      rintro e w9 ⟨rfl, hx9⟩
      go_wp2_with fail
      go_ret
      have z3 := a3.ext.size
      have z4 := a4.ext.size
      have o3 : ∀ q, A3.own q → w.heap.size ≤ q := fun q hq => by
        rcases a3.own q hq with h | h
        · exact oA q h
        · omega
      have o4 : ∀ q, A4.own q → w.heap.size ≤ q := fun q hq => by
        rcases a4.own q hq with h | h
        · exact o3 q h
        · omega
      exact ⟨rfl, (((hext.trans (F := NoB) a3.ext (fun q h1 h2 => by have := oA q h2; omega)).trans (F := NoB) a4.ext (fun q h1 h2 => by have := o3 q h2; omega)).trans (F := NoB) a6.ext (fun q h1 h2 => by have := o4 q h2; omega)).trans hx9 (fun _ _ e => e)⟩

end Go.Proofs.Ytnobodgjabgikaa
