/- The wheel: near. -/
import Derived.Test.YtnobodgjabgikaaProg
import Derived.Test.YtnobodgjabgikaaWhH
namespace Go.Proofs.Ytnobodgjabgikaa
open Go.RowKit Go.Sort
set_option linter.unusedSimpArgs false
set_option linter.unusedVariables false

/-- Is it near? -/
def nearB (to : Nat) (t : Tm) : Bool := decide (t.1 / 16777216 ≤ (to : Int) / 16777216)
def NearPost (W : Wh) (to : Nat) (w : World) (e : Ending) (w' : World) : Prop :=
  ∃ (A : Option Addr) (c b o n : Nat) (W' : Wh) (e' : SlC), e = .returned (.slice A ((W.get (4, 0)).xs.take n).length c) ∧ SlR w' 2 timerE A c b o ((W.get (4, 0)).xs.take n) ∧ n ≤ (W.get (4, 0)).xs.length ∧
    (∀ j (h : j < (W.get (4, 0)).xs.length), j < n → nearB to (W.get (4, 0)).xs[j] = true) ∧ (∀ h : n < (W.get (4, 0)).xs.length, nearB to (W.get (4, 0)).xs[n] = false) ∧
    W' = { W with sl := mput W.sl (4, 0) e' } ∧ e'.xs = (W.get (4, 0)).xs.drop n ∧ WhAt w' W' ∧ Ext W.own w w' ∧ (∀ q, W'.own q → W.own q ∨ w.heap.size ≤ q) ∧ (0 < n → ¬ W'.own b)

theorem nearPost_mk {W : Wh} {to : Nat} {w w' : World} {exs : List Tm} {A : Option Addr} {c b o n m : Nat} {W' : Wh} {e' : SlC} (hE : (W.get (4, 0)).xs = exs) (hm : (exs.take n).length = m) (hr : SlR w' 2 timerE A c b o (exs.take n)) (hn : n ≤ exs.length)
    (h1 : ∀ j (h : j < exs.length), j < n → nearB to exs[j] = true) (h2 : ∀ h : n < exs.length, nearB to exs[n] = false)
    (h3 : W' = { W with sl := mput W.sl (4, 0) e' }) (h4 : e'.xs = exs.drop n) (h5 : WhAt w' W') (h6 : Ext W.own w w') (h7 : ∀ q, W'.own q → W.own q ∨ w.heap.size ≤ q) (h8 : 0 < n → ¬ W'.own b) : NearPost W to w (.returned (.slice A m c)) w' := by
  subst hE; subst hm
  exact ⟨A, c, b, o, n, W', e', rfl, hr, hn, h1, h2, h3, h4, h5, h6, h7, h8⟩

theorem dropK {α : Type} {k : Nat} {xs : List α} {w : World} {enc : α → List Value} {A A' : Option Addr} {c b o n : Nat} (h : SlR w k enc A c b o xs) (hk : ∀ x, (enc x).length = k) (hn : n ≤ xs.length) (hA : n < xs.length → A' = some ⟨b, o + n * k, none⟩) : SlR w k enc A' (c - n) b (o + n * k) (xs.drop n) := by
  have hle := h.le
  have hmx := h.max
  refine ⟨fun hp => hA (by rw [List.length_drop] at hp; omega), by rw [List.length_drop]; omega, by omega, fun j u hu => ?_⟩
  have e : xs.flatMap enc = (xs.take n).flatMap enc ++ (xs.drop n).flatMap enc := by rw [← List.flatMap_append, List.take_append_drop]
  have hl : ((xs.take n).flatMap enc).length = n * k := by rw [flat_len hk, List.length_take, Nat.min_eq_left hn]
  rw [show o + n * k + j = o + (n * k + j) by omega]
  refine h.row (n * k + j) u ?_
  rw [e, List.getElem?_append_right (by omega), hl, show n * k + j - n * k = j by omega]
  exact hu

theorem WhAt.gone {w : World} {W : Wh} (h : WhAt w W) {s : Spt} {e' : SlC} (hg : ∀ q, e'.g = some q → w.heap.size ≤ q) {b : Nat} (hb : (W.get s).g = some b) : ¬ Wh.own { W with sl := mput W.sl s e' } b := by
  have hok := h.get_ok s
  rintro (e | e | e | e | ⟨x, hx, e⟩)
  · exact h.get_nb s (by rw [hb, e])
  · exact hok.ne_map h.m1 (by rw [hb, e])
  · exact hok.ne_map h.m2 (by rw [hb, e])
  · exact hok.ne_map h.m3 (by rw [hb, e])
  · rcases mem_mput hx with rfl | ⟨hx, hne⟩
    · have := hg b e; have := hok.lt hb; omega
    · unfold Wh.get at hb
      cases hm0 : mget W.sl s with
      | none => rw [hm0] at hb; cases hb
      | some y => rw [hm0] at hb; exact h.dj x hx (s, y) (mem_of_mget hm0) hne b e hb

set_option maxRecDepth 100000 in
set_option maxHeartbeats 4000000 in
theorem near_calls (W : Wh) (to : Nat) (w : World) (h : WhAt w W) (hto : to < 18446744073709551616) (hpos : ∀ t ∈ (W.get (4, 0)).xs, 0 ≤ t.1 ∧ t.1 < 18446744073709551616) (hL : ((W.get (4, 0)).xs).length ≤ 900000) :
    Calls Try.prog 25 #[.pointer (some ⟨W.b, 0, none⟩), .int .u64 to] w (NearPost W to w) := by
  have hx13 : Ext NoB w (w.alloc (.cells #[.int .i64 4, .int .i64 0] 63)) := (Ext.refl NoB w).alloc _
  have hs3 : (w.alloc (.cells #[.int .i64 4, .int .i64 0] 63)).heap[w.heap.size]? = some (.cells #[.int .i64 4, .int .i64 0] 63 (0, 0)) := alloc_at w _
  go_enter Try.func25, Try.ntmps25
  go_wp2_with fail
  generalize hw4 : w.alloc (.cells #[.int .i64 4, .int .i64 0] 63) = w4 at *
  have h4 := h.keep hx13 (fun _ _ => nb)
  have p0' : w4.cell? ⟨w.heap.size, 0, none⟩ = some (.int .i64 4) := by rw [cell_of_row _ (w.heap.size) 0 _ _ (0, 0) hs3]; rfl
  have p1' : w4.cell? ⟨w.heap.size, 1, none⟩ = some (.int .i64 0) := by rw [cell_of_row _ (w.heap.size) 1 _ _ (0, 0) hs3]; rfl
  have c3 := h4.c3
  have hsz4 := hx13.size
  clear hw4 hs3
  have hn4 := h4.get_n (4, 0)
  have hO4 := h4.get_ok (4, 0)
  have hown4 := h4.get_own (4, 0)
  have hgv : (mget W.sl (4, 0)).getD noSl = W.get (4, 0) := rfl
  generalize hE : W.get (4, 0) = E at *
  have hE' := Lib.hid hE
  have hgv' := Lib.hid hgv
  clear hE hgv
  obtain ⟨ea, en, ec, eg, exs⟩ := E
  dsimp only at hn4 hO4 hown4 hL hpos ⊢
  obtain rfl : en = exs.length := hn4
  simp only [slV] at hO4
  obtain ⟨A4, c4, b4, o4, e4, hr4, hgr4⟩ := hO4.read
  simp only [Value.slice.injEq, true_and] at e4
  obtain ⟨rfl, rfl⟩ := e4
  have hcan := hO4.can
  have hle := hr4.le
  have hmx := hr4.max
  unfold maxLen at hmx
  have hl1 : ∀ n, (Instr.lookup 57 (.map (some W.r3)) (.agg #[.int .i64 4, .int .i64 0]) false).run Try.prog (w4.drewN n) = .ok (.slice ea exs.length ec) (w4.drewN n) := fun n => by
    have := (h4.m3.of_block (w' := w4.drewN n) rfl).run_lookup key_spot Try.underlying57 (z := noSl) zero_tms (4, 0) false
    simp only [Bool.false_eq_true, if_false, hgv'.out] at this
    exact this
  go_quiet (fail)
  go_wp2_with fail
  refine gen_wp ?_
  intro w5 hx5
  have h5 := h4.keep hx5 (fun _ _ => nb)
  have q3 := hx5.cell c3 nb
  have r0 := hx5.cell p0' nb
  have r1 := hx5.cell p1' nb
  have hr5 := hr4.keep hx5 nb1
  have hO5 := hO4.keep hx5 (fun _ _ => nb)
  have hx05 := hx13.trans hx5 (fun _ _ h => h)
  have hsz5 := hx05.size
  clear c3 p0' p1' hl1 hx13 hx5 h4 hr4 hO4
  go_loop [7] (fun n => ∃ k : Nat, k ≤ exs.length ∧ n = .int .i64 k ∧ Hid (∀ j (h : j < exs.length), j < k → nearB to exs[j] = true)) (fun n => exs.length - (intOf n).toNat)
  case atStart => exact ⟨0, Nat.zero_le _, rfl, fun j h hj => absurd hj (Nat.not_lt_zero _)⟩
  case round =>
    obtain ⟨k, hk, rfl, hlow⟩ := hrel
    by_cases hlt : k < exs.length
    · obtain rfl := hr5.addr (by omega)
      have e0 := hr5.cell timerE_len k exs[k] (List.getElem?_eq_getElem hlt) 0 _ rfl
      rw [Nat.add_zero] at e0
      obtain ⟨b0, b1⟩ := hpos exs[k] (List.getElem_mem hlt)
      have t0 : decide (k < exs.length) = true := by simp [hlt]
      have hnx : Hid (nearB to exs[k] = true → ∀ j (h : j < exs.length), j < k + 1 → nearB to exs[j] = true) := fun hn j h hj => by
        by_cases hjk : j = k
        · subst hjk; exact hn
        · exact hlow.out j h (by omega)
      have hnb : Hid (nearB to exs[k] = decide (exs[k].1 / 16777216 ≤ (to : Int) / 16777216)) := rfl
      have hno : Hid (nearB to exs[k] = false → ∀ h : k < exs.length, nearB to exs[k] = false) := fun h _ => h
      generalize hu : exs[k] = u at *
      cases hb : nearB to u with
      | true =>
        have t1 : decide (u.1 / 16777216 ≤ (to : Int) / 16777216) = true := by rw [← hnb.out]; exact hb
        have hb' := Lib.hid hb
        have hu' := Lib.hid hu
        clear hb hu
        go_wp2_with fail
        go_round
        case rel => exact ⟨k + 1, by omega, by go_num, hnx.out hb'.out⟩
        case measure => simp [intOf]; omega
      | false =>
        have t1 : decide (u.1 / 16777216 ≤ (to : Int) / 16777216) = false := by rw [← hnb.out]; exact hb
        have hend : Hid (∀ h : k < exs.length, nearB to exs[k] = false) := fun h => by rw [hu]; exact hb
        clear hb hu
        have _ := hk
        have hcl0 := clone_calls (some ⟨b4, o4 + k * 2, none⟩) (ec - k) b4 (o4 + k * 2) (exs.drop k) w5.drew ((dropK hr5 timerE_len hk (fun _ => rfl)).keep (Ext.refl NoB w5).drew nb1) (.inr ⟨_, _, rfl⟩) (by rw [List.length_drop]; omega)
        rw [show (exs.drop k).length = exs.length - k from List.length_drop] at hcl0
        have hcl := Lib.hid hcl0
        clear hcl0
        have hki : (k : Int) ≤ (ec : Int) := by omega
        have hkn : k ≤ ec := by omega
        have hkc : ¬ ec = k := by omega
        have hm5 := h5.m3
        have hh5 := Lib.hid h5
        clear h5 hmx hle
        go_wp2_with fail
        refine wp_region_V 9 (fun w' => w'.cell? ⟨W.b, 3, none⟩ = some (.map (some W.r3)) ∧ w'.cell? ⟨w.heap.size, 0, none⟩ = some (.int .i64 4) ∧ w'.cell? ⟨w.heap.size, 1, none⟩ = some (.int .i64 0) ∧ MapAt w' W.r3 (pairV .i64) slV W.sl) (by kernel_rfl) ?_
        try simp only [Act.put, List.setIfInBounds_toArray, List.set_cons_zero, List.set_cons_succ]
        refine wpAnyV_take (i := 0) (by kernel_rfl) (by kernel_rfl) (by kernel_rfl) (by kernel_rfl) (by kernel_rfl) (⟨q3, r0, r1, hm5⟩) (fun o ho => ?_)
        conv at ho => rhs; whnf
        subst ho
        refine ⟨?_, fun _ _ _ h => h, Or.inl ⟨by rfl, ?_⟩, ?_⟩
        rotate_left
        · intro w hSw
          try dsimp only at hSw
          first | (go_simp; done) | (go_simp; with_reducible rfl)
        try simp only [Act.put, List.setIfInBounds_toArray, List.set_cons_zero, List.set_cons_succ]
        refine wpAnyV_take (i := 1) (by kernel_rfl) (by kernel_rfl) (by kernel_rfl) (by kernel_rfl) (by kernel_rfl) (⟨q3, r0, r1, hm5⟩) (fun o ho => ?_)
        conv at ho => rhs; whnf
        subst ho
        refine ⟨?_, fun _ _ _ h => h, Or.inl ⟨by rfl, ?_⟩, ?_⟩
        rotate_left
        · intro w hSw
          try dsimp only at hSw
          first | (go_simp; done) | (go_simp; with_reducible rfl)
        try simp only [Act.put, List.setIfInBounds_toArray, List.set_cons_zero, List.set_cons_succ]
        refine wpAnyV_take (i := 2) (by kernel_rfl) (by kernel_rfl) (by kernel_rfl) (by kernel_rfl) (by kernel_rfl) (⟨q3, r0, r1, hm5⟩) (fun o ho => ?_)
        conv at ho => rhs; whnf
        subst ho
        refine ⟨?_, fun _ _ _ h => h, Or.inl ⟨by rfl, ?_⟩, ?_⟩
        rotate_left
        · intro w hSw
          try dsimp only at hSw
          first | (go_simp; done) | (go_simp; with_reducible rfl)
        try simp only [Act.put, List.setIfInBounds_toArray, List.set_cons_zero, List.set_cons_succ]
        refine wpAnyV_take (i := 3) (by kernel_rfl) (by kernel_rfl) (by kernel_rfl) (by kernel_rfl) (by kernel_rfl) (⟨q3, r0, r1, hm5⟩) (fun o ho => ?_)
        conv at ho => rhs; whnf
        subst ho
        refine ⟨?_, fun _ _ _ h => h, Or.inl ⟨by rfl, ?_⟩, ?_⟩
        rotate_left
        · intro w hSw
          try dsimp only at hSw
          first | (go_simp; done) | (go_simp; with_reducible rfl)
        try simp only [Act.put, List.setIfInBounds_toArray, List.set_cons_zero, List.set_cons_succ]
        refine wpAnyV_take (i := 4) (by kernel_rfl) (by kernel_rfl) (by kernel_rfl) (by kernel_rfl) (by kernel_rfl) (⟨q3, r0, r1, hm5⟩) (fun o ho => ?_)
        conv at ho => rhs; whnf
        subst ho
        refine ⟨?_, fun _ _ _ h => h, Or.inl ⟨by rfl, ?_⟩, ?_⟩
        rotate_left
        · intro w hSw
          try dsimp only at hSw
          first | (go_simp; done) | (go_simp; with_reducible rfl)
        try simp only [Act.put, List.setIfInBounds_toArray, List.set_cons_zero, List.set_cons_succ]
        refine wpAnyV_take (i := 5) (by kernel_rfl) (by kernel_rfl) (by kernel_rfl) (by kernel_rfl) (by kernel_rfl) (⟨q3, r0, r1, hm5⟩) (fun o ho => ?_)
        conv at ho => rhs; whnf
        subst ho
        refine ⟨?_, fun _ _ _ h => h, Or.inl ⟨by rfl, ?_⟩, ?_⟩
        rotate_left
        · intro w hSw
          try dsimp only at hSw
          first | (go_simp; done) | (go_simp; with_reducible rfl)
        try simp only [Act.put, List.setIfInBounds_toArray, List.set_cons_zero, List.set_cons_succ]
        refine wpAnyV_take (i := 6) (by kernel_rfl) (by kernel_rfl) (by kernel_rfl) (by kernel_rfl) (by kernel_rfl) (⟨q3, r0, r1, hm5⟩) (fun o ho => ?_)
        conv at ho => rhs; whnf
        subst ho
        refine ⟨?_, fun _ _ _ h => h, Or.inl ⟨by rfl, ?_⟩, ?_⟩
        rotate_left
        · intro w hSw
          try dsimp only at hSw
          first | (go_simp; done) | (go_simp; with_reducible rfl)
        try simp only [Act.put, List.setIfInBounds_toArray, List.set_cons_zero, List.set_cons_succ]
        refine wpAnyV_take (i := 7) (by kernel_rfl) (by kernel_rfl) (by kernel_rfl) (by kernel_rfl) (by kernel_rfl) (⟨q3, r0, r1, hm5⟩) (fun o ho => ?_)
        conv at ho => rhs; whnf
        subst ho
        refine ⟨?_, fun _ _ _ h => h, Or.inl ⟨by rfl, ?_⟩, ?_⟩
        rotate_left
        · intro w hSw
          try dsimp only at hSw
          first | (go_simp; done) | (go_simp; with_reducible rfl)
        try simp only [Act.put, List.setIfInBounds_toArray, List.set_cons_zero, List.set_cons_succ]
        refine wpAnyV_one (i := 8) (by kernel_rfl) (by kernel_rfl) (fun o ho K hK => ?_)
        conv at ho => rhs; whnf
        subst ho
        go_simp
        refine hcl.out.mono ?_
        rintro e w7 ⟨v7, g7, rfl, hO7, hg7, hx7⟩
        obtain ⟨a7, c7, b7, o7, rfl, hr7, hgr7⟩ := hO7.read
        try go_simp
        refine hK.out _ _ (Or.inr ⟨hx7.cell q3 nb, hx7.cell r0 nb, hx7.cell r1 nb, hm5.keep ((Ext.refl NoB w5).drew.trans hx7 (fun _ _ h => h)) nb⟩) ?_
        clear hK K
        try simp only [Act.put, List.setIfInBounds_toArray, List.set_cons_zero, List.set_cons_succ]
        refine wpAnyV_one (i := 9) (by kernel_rfl) (by kernel_rfl) (fun o ho K hK => ?_)
        conv at ho => rhs; whnf
        subst ho
        refine step_mapPut (ek := pairV .i64) (ev := slV) rfl rfl key_spot Try.underlying57 (hm5.keep ((Ext.refl NoB w5).drew.trans hx7 (fun _ _ h => h)) nb) rfl (4, 0) rfl ⟨a7, exs.length - k, c7, g7, exs.drop k⟩ rfl ?_
        intro w8 hm8 hx8
        refine hK.out _ _ (Or.inl rfl) ?_
        clear hK K
        try simp only [Act.put, List.setIfInBounds_toArray, List.set_cons_zero, List.set_cons_succ]
        refine wpAnyV_done (by kernel_rfl) ?_ _
        have hO7' : SlO w7 33 2 timerE g7 (.slice a7 (exs.length - k) c7) (exs.drop k) := by rw [show (exs.length - k) = (exs.drop k).length by rw [List.length_drop]]; exact hO7
        obtain ⟨u1, u2, u3⟩ := WhAt.with_sl (W := W) (hh5.out.keep (Ext.refl NoB w5).drew (fun _ _ => nb)) (s := (4, 0)) (e' := ⟨a7, exs.length - k, c7, g7, exs.drop k⟩) (w5 := w7) (w6 := w8) (hx7.mono (fun _ _ e => e.elim)) hO7' (.inr hg7) hm8 hx8
        have htk := Lib.hid (show (exs.take k).length = k by rw [List.length_take, Nat.min_eq_left hk])
        have hx58 : Ext (fun q => q = W.r3) w5 w8 := ((Ext.refl NoB w5).drew.trans hx7 (fun _ _ h => h)).mono (fun _ _ e => e.elim) |>.trans hx8 (fun _ _ h => h)
        have hp1 : 0 < (exs.take k).length → 0 < exs.length := fun hp => by rw [List.length_take] at hp; omega
        have hne5 : 0 < exs.length → b4 ≠ W.r3 := fun hp => hr5.ne_map timerE_len (by omega) hm5 hp
        have hrt := (hr5.take timerE_len hk).keep hx58 (fun hp e1 => hne5 (hp1 hp) e1)
        have hgo : 0 < k → ¬ Wh.own { W with sl := mput W.sl (4, 0) ⟨a7, exs.length - k, c7, g7, exs.drop k⟩ } b4 := fun hp => (hh5.out.keep (Ext.refl NoB w5).drew (fun _ _ => nb)).gone hg7 (by rw [hE'.out]; exact hgr4 (by omega))
        clear hO7' hO7 hr7 hgr7 hm8 hx8 hx7 hg7
        go_wp2_with fail
        go_ret
        exact nearPost_mk (e' := ⟨a7, exs.length - k, c7, g7, exs.drop k⟩) (by rw [hE'.out]) htk.out hrt hk hlow.out hend.out rfl rfl u1 ((hx05.drew.mono (fun _ _ e => e.elim)).trans u2 (fun _ _ h => h)) (fun q hq => (u3 q hq).imp (fun h => h) (fun e => Nat.le_trans hsz5 e)) hgo
    · have hke : k = exs.length := by omega
      have t0 : decide (k < exs.length) = false := by simp; omega
      have hend : Hid (∀ h : k < exs.length, nearB to exs[k] = false) := fun h => absurd h hlt
      have hke' := Lib.hid hke
      clear hke hlt
      rcases hcan with ⟨rfl, rfl⟩ | ⟨b2, o2, rfl⟩
      · obtain rfl : exs = [] := List.eq_nil_of_length_eq_zero (by omega)
        obtain rfl : k = 0 := hke'.out
        have _ := hk
        have hdn : Hid (([] : List Tm).drop 0 = []) := List.eq_nil_of_length_eq_zero (by rw [List.length_drop]; have := hke'.out; omega)
        have hcl0 := clone_calls (none) 0 b4 (o4 + 0 * 2) (([] : List Tm).drop 0) w5.drew (slR_nil hdn.out (by unfold maxLen; omega)) (.inl ⟨rfl, rfl⟩) (by rw [List.length_drop]; omega)
        rw [show (([] : List Tm).drop 0).length = 0 by rw [hdn.out]; rfl] at hcl0
        have hcl := Lib.hid hcl0
        clear hcl0
        have hki : (0 : Int) ≤ (0 : Int) := by omega
        have hkn : 0 ≤ 0 := by omega
        have hm5 := h5.m3
        have hh5 := Lib.hid h5
        clear h5 hmx hle
        go_wp2_with fail
        refine wp_region_V 9 (fun w' => w'.cell? ⟨W.b, 3, none⟩ = some (.map (some W.r3)) ∧ w'.cell? ⟨w.heap.size, 0, none⟩ = some (.int .i64 4) ∧ w'.cell? ⟨w.heap.size, 1, none⟩ = some (.int .i64 0) ∧ MapAt w' W.r3 (pairV .i64) slV W.sl) (by kernel_rfl) ?_
        try simp only [Act.put, List.setIfInBounds_toArray, List.set_cons_zero, List.set_cons_succ]
        refine wpAnyV_take (i := 0) (by kernel_rfl) (by kernel_rfl) (by kernel_rfl) (by kernel_rfl) (by kernel_rfl) (⟨q3, r0, r1, hm5⟩) (fun o ho => ?_)
        conv at ho => rhs; whnf
        subst ho
        refine ⟨?_, fun _ _ _ h => h, Or.inl ⟨by rfl, ?_⟩, ?_⟩
        rotate_left
        · intro w hSw
          try dsimp only at hSw
          first | (go_simp; done) | (go_simp; with_reducible rfl)
        try simp only [Act.put, List.setIfInBounds_toArray, List.set_cons_zero, List.set_cons_succ]
        refine wpAnyV_take (i := 1) (by kernel_rfl) (by kernel_rfl) (by kernel_rfl) (by kernel_rfl) (by kernel_rfl) (⟨q3, r0, r1, hm5⟩) (fun o ho => ?_)
        conv at ho => rhs; whnf
        subst ho
        refine ⟨?_, fun _ _ _ h => h, Or.inl ⟨by rfl, ?_⟩, ?_⟩
        rotate_left
        · intro w hSw
          try dsimp only at hSw
          first | (go_simp; done) | (go_simp; with_reducible rfl)
        try simp only [Act.put, List.setIfInBounds_toArray, List.set_cons_zero, List.set_cons_succ]
        refine wpAnyV_take (i := 2) (by kernel_rfl) (by kernel_rfl) (by kernel_rfl) (by kernel_rfl) (by kernel_rfl) (⟨q3, r0, r1, hm5⟩) (fun o ho => ?_)
        conv at ho => rhs; whnf
        subst ho
        refine ⟨?_, fun _ _ _ h => h, Or.inl ⟨by rfl, ?_⟩, ?_⟩
        rotate_left
        · intro w hSw
          try dsimp only at hSw
          first | (go_simp; done) | (go_simp; with_reducible rfl)
        try simp only [Act.put, List.setIfInBounds_toArray, List.set_cons_zero, List.set_cons_succ]
        refine wpAnyV_take (i := 3) (by kernel_rfl) (by kernel_rfl) (by kernel_rfl) (by kernel_rfl) (by kernel_rfl) (⟨q3, r0, r1, hm5⟩) (fun o ho => ?_)
        conv at ho => rhs; whnf
        subst ho
        refine ⟨?_, fun _ _ _ h => h, Or.inl ⟨by rfl, ?_⟩, ?_⟩
        rotate_left
        · intro w hSw
          try dsimp only at hSw
          first | (go_simp; done) | (go_simp; with_reducible rfl)
        try simp only [Act.put, List.setIfInBounds_toArray, List.set_cons_zero, List.set_cons_succ]
        refine wpAnyV_take (i := 4) (by kernel_rfl) (by kernel_rfl) (by kernel_rfl) (by kernel_rfl) (by kernel_rfl) (⟨q3, r0, r1, hm5⟩) (fun o ho => ?_)
        conv at ho => rhs; whnf
        subst ho
        refine ⟨?_, fun _ _ _ h => h, Or.inl ⟨by rfl, ?_⟩, ?_⟩
        rotate_left
        · intro w hSw
          try dsimp only at hSw
          first | (go_simp; done) | (go_simp; with_reducible rfl)
        try simp only [Act.put, List.setIfInBounds_toArray, List.set_cons_zero, List.set_cons_succ]
        refine wpAnyV_take (i := 5) (by kernel_rfl) (by kernel_rfl) (by kernel_rfl) (by kernel_rfl) (by kernel_rfl) (⟨q3, r0, r1, hm5⟩) (fun o ho => ?_)
        conv at ho => rhs; whnf
        subst ho
        refine ⟨?_, fun _ _ _ h => h, Or.inl ⟨by rfl, ?_⟩, ?_⟩
        rotate_left
        · intro w hSw
          try dsimp only at hSw
          first | (go_simp; done) | (go_simp; with_reducible rfl)
        try simp only [Act.put, List.setIfInBounds_toArray, List.set_cons_zero, List.set_cons_succ]
        refine wpAnyV_take (i := 6) (by kernel_rfl) (by kernel_rfl) (by kernel_rfl) (by kernel_rfl) (by kernel_rfl) (⟨q3, r0, r1, hm5⟩) (fun o ho => ?_)
        conv at ho => rhs; whnf
        subst ho
        refine ⟨?_, fun _ _ _ h => h, Or.inl ⟨by rfl, ?_⟩, ?_⟩
        rotate_left
        · intro w hSw
          try dsimp only at hSw
          first | (go_simp; done) | (go_simp; with_reducible rfl)
        try simp only [Act.put, List.setIfInBounds_toArray, List.set_cons_zero, List.set_cons_succ]
        refine wpAnyV_take (i := 7) (by kernel_rfl) (by kernel_rfl) (by kernel_rfl) (by kernel_rfl) (by kernel_rfl) (⟨q3, r0, r1, hm5⟩) (fun o ho => ?_)
        conv at ho => rhs; whnf
        subst ho
        refine ⟨?_, fun _ _ _ h => h, Or.inl ⟨by rfl, ?_⟩, ?_⟩
        rotate_left
        · intro w hSw
          try dsimp only at hSw
          first | (go_simp; done) | (go_simp; with_reducible rfl)
        try simp only [Act.put, List.setIfInBounds_toArray, List.set_cons_zero, List.set_cons_succ]
        refine wpAnyV_one (i := 8) (by kernel_rfl) (by kernel_rfl) (fun o ho K hK => ?_)
        conv at ho => rhs; whnf
        subst ho
        go_simp
        refine hcl.out.mono ?_
        rintro e w7 ⟨v7, g7, rfl, hO7, hg7, hx7⟩
        obtain ⟨a7, c7, b7, o7, rfl, hr7, hgr7⟩ := hO7.read
        try go_simp
        refine hK.out _ _ (Or.inr ⟨hx7.cell q3 nb, hx7.cell r0 nb, hx7.cell r1 nb, hm5.keep ((Ext.refl NoB w5).drew.trans hx7 (fun _ _ h => h)) nb⟩) ?_
        clear hK K
        try simp only [Act.put, List.setIfInBounds_toArray, List.set_cons_zero, List.set_cons_succ]
        refine wpAnyV_one (i := 9) (by kernel_rfl) (by kernel_rfl) (fun o ho K hK => ?_)
        conv at ho => rhs; whnf
        subst ho
        refine step_mapPut (ek := pairV .i64) (ev := slV) rfl rfl key_spot Try.underlying57 (hm5.keep ((Ext.refl NoB w5).drew.trans hx7 (fun _ _ h => h)) nb) rfl (4, 0) rfl ⟨a7, 0, c7, g7, ([] : List Tm).drop 0⟩ rfl ?_
        intro w8 hm8 hx8
        refine hK.out _ _ (Or.inl rfl) ?_
        clear hK K
        try simp only [Act.put, List.setIfInBounds_toArray, List.set_cons_zero, List.set_cons_succ]
        refine wpAnyV_done (by kernel_rfl) ?_ _
        have hO7' : SlO w7 33 2 timerE g7 (.slice a7 (0) c7) (([] : List Tm).drop 0) := by rw [show (0) = (([] : List Tm).drop 0).length by (rw [hdn.out]; rfl)]; exact hO7
        obtain ⟨u1, u2, u3⟩ := WhAt.with_sl (W := W) (hh5.out.keep (Ext.refl NoB w5).drew (fun _ _ => nb)) (s := (4, 0)) (e' := ⟨a7, 0, c7, g7, ([] : List Tm).drop 0⟩) (w5 := w7) (w6 := w8) (hx7.mono (fun _ _ e => e.elim)) hO7' (.inr hg7) hm8 hx8
        have htk := Lib.hid (show (([] : List Tm).take 0).length = 0 by rw [List.length_take, Nat.min_eq_left hk])
        have hx58 : Ext (fun q => q = W.r3) w5 w8 := ((Ext.refl NoB w5).drew.trans hx7 (fun _ _ h => h)).mono (fun _ _ e => e.elim) |>.trans hx8 (fun _ _ h => h)
        have hp1 : 0 < (([] : List Tm).take 0).length → 0 < ([] : List Tm).length := fun hp => by rw [List.length_take] at hp; omega
        have hne5 : 0 < ([] : List Tm).length → b4 ≠ W.r3 := fun hp => hr5.ne_map timerE_len (by omega) hm5 hp
        have hrt := (hr5.take timerE_len hk).keep hx58 (fun hp e1 => hne5 (hp1 hp) e1)
        have hgo : 0 < 0 → ¬ Wh.own { W with sl := mput W.sl (4, 0) ⟨a7, 0, c7, g7, ([] : List Tm).drop 0⟩ } b4 := fun hp => (hh5.out.keep (Ext.refl NoB w5).drew (fun _ _ => nb)).gone hg7 (by rw [hE'.out]; exact hgr4 (by omega))
        clear hO7' hO7 hr7 hgr7 hm8 hx8 hx7 hg7
        go_wp2_with fail
        go_ret
        exact nearPost_mk (e' := ⟨a7, 0, c7, g7, ([] : List Tm).drop 0⟩) (by rw [hE'.out]) htk.out hrt hk hlow.out hend.out rfl rfl u1 ((hx05.drew.mono (fun _ _ e => e.elim)).trans u2 (fun _ _ h => h)) (fun q hq => (u3 q hq).imp (fun h => h) (fun e => Nat.le_trans hsz5 e)) hgo
      · by_cases hcc : ec = k
        · subst hcc
          have _ := hk
          have hdn : Hid (exs.drop ec = []) := List.eq_nil_of_length_eq_zero (by rw [List.length_drop]; have := hke'.out; omega)
          have hcl0 := clone_calls (some ⟨b2, o2, none⟩) 0 b4 (o4 + ec * 2) (exs.drop ec) w5.drew (slR_nil hdn.out (by unfold maxLen; omega)) (.inr ⟨_, _, rfl⟩) (by rw [List.length_drop]; omega)
          rw [show (exs.drop ec).length = exs.length - ec from List.length_drop] at hcl0
          have hcl := Lib.hid hcl0
          clear hcl0
          have hki : (ec : Int) ≤ (ec : Int) := by omega
          have hkn : ec ≤ ec := by omega
          have hm5 := h5.m3
          have hh5 := Lib.hid h5
          clear h5 hmx hle
          go_wp2_with fail
          refine wp_region_V 9 (fun w' => w'.cell? ⟨W.b, 3, none⟩ = some (.map (some W.r3)) ∧ w'.cell? ⟨w.heap.size, 0, none⟩ = some (.int .i64 4) ∧ w'.cell? ⟨w.heap.size, 1, none⟩ = some (.int .i64 0) ∧ MapAt w' W.r3 (pairV .i64) slV W.sl) (by kernel_rfl) ?_
          try simp only [Act.put, List.setIfInBounds_toArray, List.set_cons_zero, List.set_cons_succ]
          refine wpAnyV_take (i := 0) (by kernel_rfl) (by kernel_rfl) (by kernel_rfl) (by kernel_rfl) (by kernel_rfl) (⟨q3, r0, r1, hm5⟩) (fun o ho => ?_)
          conv at ho => rhs; whnf
          subst ho
          refine ⟨?_, fun _ _ _ h => h, Or.inl ⟨by rfl, ?_⟩, ?_⟩
          rotate_left
          · intro w hSw
            try dsimp only at hSw
            first | (go_simp; done) | (go_simp; with_reducible rfl)
          try simp only [Act.put, List.setIfInBounds_toArray, List.set_cons_zero, List.set_cons_succ]
          refine wpAnyV_take (i := 1) (by kernel_rfl) (by kernel_rfl) (by kernel_rfl) (by kernel_rfl) (by kernel_rfl) (⟨q3, r0, r1, hm5⟩) (fun o ho => ?_)
          conv at ho => rhs; whnf
          subst ho
          refine ⟨?_, fun _ _ _ h => h, Or.inl ⟨by rfl, ?_⟩, ?_⟩
          rotate_left
          · intro w hSw
            try dsimp only at hSw
            first | (go_simp; done) | (go_simp; with_reducible rfl)
          try simp only [Act.put, List.setIfInBounds_toArray, List.set_cons_zero, List.set_cons_succ]
          refine wpAnyV_take (i := 2) (by kernel_rfl) (by kernel_rfl) (by kernel_rfl) (by kernel_rfl) (by kernel_rfl) (⟨q3, r0, r1, hm5⟩) (fun o ho => ?_)
          conv at ho => rhs; whnf
          subst ho
          refine ⟨?_, fun _ _ _ h => h, Or.inl ⟨by rfl, ?_⟩, ?_⟩
          rotate_left
          · intro w hSw
            try dsimp only at hSw
            first | (go_simp; done) | (go_simp; with_reducible rfl)
          try simp only [Act.put, List.setIfInBounds_toArray, List.set_cons_zero, List.set_cons_succ]
          refine wpAnyV_take (i := 3) (by kernel_rfl) (by kernel_rfl) (by kernel_rfl) (by kernel_rfl) (by kernel_rfl) (⟨q3, r0, r1, hm5⟩) (fun o ho => ?_)
          conv at ho => rhs; whnf
          subst ho
          refine ⟨?_, fun _ _ _ h => h, Or.inl ⟨by rfl, ?_⟩, ?_⟩
          rotate_left
          · intro w hSw
            try dsimp only at hSw
            first | (go_simp; done) | (go_simp; with_reducible rfl)
          try simp only [Act.put, List.setIfInBounds_toArray, List.set_cons_zero, List.set_cons_succ]
          refine wpAnyV_take (i := 4) (by kernel_rfl) (by kernel_rfl) (by kernel_rfl) (by kernel_rfl) (by kernel_rfl) (⟨q3, r0, r1, hm5⟩) (fun o ho => ?_)
          conv at ho => rhs; whnf
          subst ho
          refine ⟨?_, fun _ _ _ h => h, Or.inl ⟨by rfl, ?_⟩, ?_⟩
          rotate_left
          · intro w hSw
            try dsimp only at hSw
            first | (go_simp; done) | (go_simp; with_reducible rfl)
          try simp only [Act.put, List.setIfInBounds_toArray, List.set_cons_zero, List.set_cons_succ]
          refine wpAnyV_take (i := 5) (by kernel_rfl) (by kernel_rfl) (by kernel_rfl) (by kernel_rfl) (by kernel_rfl) (⟨q3, r0, r1, hm5⟩) (fun o ho => ?_)
          conv at ho => rhs; whnf
          subst ho
          refine ⟨?_, fun _ _ _ h => h, Or.inl ⟨by rfl, ?_⟩, ?_⟩
          rotate_left
          · intro w hSw
            try dsimp only at hSw
            first | (go_simp; done) | (go_simp; with_reducible rfl)
          try simp only [Act.put, List.setIfInBounds_toArray, List.set_cons_zero, List.set_cons_succ]
          refine wpAnyV_take (i := 6) (by kernel_rfl) (by kernel_rfl) (by kernel_rfl) (by kernel_rfl) (by kernel_rfl) (⟨q3, r0, r1, hm5⟩) (fun o ho => ?_)
          conv at ho => rhs; whnf
          subst ho
          refine ⟨?_, fun _ _ _ h => h, Or.inl ⟨by rfl, ?_⟩, ?_⟩
          rotate_left
          · intro w hSw
            try dsimp only at hSw
            first | (go_simp; done) | (go_simp; with_reducible rfl)
          try simp only [Act.put, List.setIfInBounds_toArray, List.set_cons_zero, List.set_cons_succ]
          refine wpAnyV_take (i := 7) (by kernel_rfl) (by kernel_rfl) (by kernel_rfl) (by kernel_rfl) (by kernel_rfl) (⟨q3, r0, r1, hm5⟩) (fun o ho => ?_)
          conv at ho => rhs; whnf
          subst ho
          refine ⟨?_, fun _ _ _ h => h, Or.inl ⟨by rfl, ?_⟩, ?_⟩
          rotate_left
          · intro w hSw
            try dsimp only at hSw
            first | (go_simp; done) | (go_simp; with_reducible rfl)
          try simp only [Act.put, List.setIfInBounds_toArray, List.set_cons_zero, List.set_cons_succ]
          refine wpAnyV_one (i := 8) (by kernel_rfl) (by kernel_rfl) (fun o ho K hK => ?_)
          conv at ho => rhs; whnf
          subst ho
          go_simp
          refine hcl.out.mono ?_
          rintro e w7 ⟨v7, g7, rfl, hO7, hg7, hx7⟩
          obtain ⟨a7, c7, b7, o7, rfl, hr7, hgr7⟩ := hO7.read
          try go_simp
          refine hK.out _ _ (Or.inr ⟨hx7.cell q3 nb, hx7.cell r0 nb, hx7.cell r1 nb, hm5.keep ((Ext.refl NoB w5).drew.trans hx7 (fun _ _ h => h)) nb⟩) ?_
          clear hK K
          try simp only [Act.put, List.setIfInBounds_toArray, List.set_cons_zero, List.set_cons_succ]
          refine wpAnyV_one (i := 9) (by kernel_rfl) (by kernel_rfl) (fun o ho K hK => ?_)
          conv at ho => rhs; whnf
          subst ho
          refine step_mapPut (ek := pairV .i64) (ev := slV) rfl rfl key_spot Try.underlying57 (hm5.keep ((Ext.refl NoB w5).drew.trans hx7 (fun _ _ h => h)) nb) rfl (4, 0) rfl ⟨a7, exs.length - ec, c7, g7, exs.drop ec⟩ rfl ?_
          intro w8 hm8 hx8
          refine hK.out _ _ (Or.inl rfl) ?_
          clear hK K
          try simp only [Act.put, List.setIfInBounds_toArray, List.set_cons_zero, List.set_cons_succ]
          refine wpAnyV_done (by kernel_rfl) ?_ _
          have hO7' : SlO w7 33 2 timerE g7 (.slice a7 (exs.length - ec) c7) (exs.drop ec) := by rw [show (exs.length - ec) = (exs.drop ec).length by rw [List.length_drop]]; exact hO7
          obtain ⟨u1, u2, u3⟩ := WhAt.with_sl (W := W) (hh5.out.keep (Ext.refl NoB w5).drew (fun _ _ => nb)) (s := (4, 0)) (e' := ⟨a7, exs.length - ec, c7, g7, exs.drop ec⟩) (w5 := w7) (w6 := w8) (hx7.mono (fun _ _ e => e.elim)) hO7' (.inr hg7) hm8 hx8
          have htk := Lib.hid (show (exs.take ec).length = ec by rw [List.length_take, Nat.min_eq_left hk])
          have hx58 : Ext (fun q => q = W.r3) w5 w8 := ((Ext.refl NoB w5).drew.trans hx7 (fun _ _ h => h)).mono (fun _ _ e => e.elim) |>.trans hx8 (fun _ _ h => h)
          have hp1 : 0 < (exs.take ec).length → 0 < exs.length := fun hp => by rw [List.length_take] at hp; omega
          have hne5 : 0 < exs.length → b4 ≠ W.r3 := fun hp => hr5.ne_map timerE_len (by omega) hm5 hp
          have hrt := (hr5.take timerE_len hk).keep hx58 (fun hp e1 => hne5 (hp1 hp) e1)
          have hgo : 0 < ec → ¬ Wh.own { W with sl := mput W.sl (4, 0) ⟨a7, exs.length - ec, c7, g7, exs.drop ec⟩ } b4 := fun hp => (hh5.out.keep (Ext.refl NoB w5).drew (fun _ _ => nb)).gone hg7 (by rw [hE'.out]; exact hgr4 (by omega))
          clear hO7' hO7 hr7 hgr7 hm8 hx8 hx7 hg7
          go_wp2_with fail
          go_ret
          exact nearPost_mk (e' := ⟨a7, exs.length - ec, c7, g7, exs.drop ec⟩) (by rw [hE'.out]) htk.out hrt hk hlow.out hend.out rfl rfl u1 ((hx05.drew.mono (fun _ _ e => e.elim)).trans u2 (fun _ _ h => h)) (fun q hq => (u3 q hq).imp (fun h => h) (fun e => Nat.le_trans hsz5 e)) hgo
        · have _ := hk
          have hdn : Hid (exs.drop k = []) := List.eq_nil_of_length_eq_zero (by rw [List.length_drop]; have := hke'.out; omega)
          have hcl0 := clone_calls (some ⟨b2, o2 + k * 2, none⟩) (ec - k) b4 (o4 + k * 2) (exs.drop k) w5.drew (slR_nil hdn.out (by unfold maxLen; omega)) (.inr ⟨_, _, rfl⟩) (by rw [List.length_drop]; omega)
          rw [show (exs.drop k).length = exs.length - k from List.length_drop] at hcl0
          have hcl := Lib.hid hcl0
          clear hcl0
          have hki : (k : Int) ≤ (ec : Int) := by omega
          have hkn : k ≤ ec := by omega
          have hm5 := h5.m3
          have hh5 := Lib.hid h5
          clear h5 hmx hle
          go_wp2_with fail
          refine wp_region_V 9 (fun w' => w'.cell? ⟨W.b, 3, none⟩ = some (.map (some W.r3)) ∧ w'.cell? ⟨w.heap.size, 0, none⟩ = some (.int .i64 4) ∧ w'.cell? ⟨w.heap.size, 1, none⟩ = some (.int .i64 0) ∧ MapAt w' W.r3 (pairV .i64) slV W.sl) (by kernel_rfl) ?_
          try simp only [Act.put, List.setIfInBounds_toArray, List.set_cons_zero, List.set_cons_succ]
          refine wpAnyV_take (i := 0) (by kernel_rfl) (by kernel_rfl) (by kernel_rfl) (by kernel_rfl) (by kernel_rfl) (⟨q3, r0, r1, hm5⟩) (fun o ho => ?_)
          conv at ho => rhs; whnf
          subst ho
          refine ⟨?_, fun _ _ _ h => h, Or.inl ⟨by rfl, ?_⟩, ?_⟩
          rotate_left
          · intro w hSw
            try dsimp only at hSw
            first | (go_simp; done) | (go_simp; with_reducible rfl)
          try simp only [Act.put, List.setIfInBounds_toArray, List.set_cons_zero, List.set_cons_succ]
          refine wpAnyV_take (i := 1) (by kernel_rfl) (by kernel_rfl) (by kernel_rfl) (by kernel_rfl) (by kernel_rfl) (⟨q3, r0, r1, hm5⟩) (fun o ho => ?_)
          conv at ho => rhs; whnf
          subst ho
          refine ⟨?_, fun _ _ _ h => h, Or.inl ⟨by rfl, ?_⟩, ?_⟩
          rotate_left
          · intro w hSw
            try dsimp only at hSw
            first | (go_simp; done) | (go_simp; with_reducible rfl)
          try simp only [Act.put, List.setIfInBounds_toArray, List.set_cons_zero, List.set_cons_succ]
          refine wpAnyV_take (i := 2) (by kernel_rfl) (by kernel_rfl) (by kernel_rfl) (by kernel_rfl) (by kernel_rfl) (⟨q3, r0, r1, hm5⟩) (fun o ho => ?_)
          conv at ho => rhs; whnf
          subst ho
          refine ⟨?_, fun _ _ _ h => h, Or.inl ⟨by rfl, ?_⟩, ?_⟩
          rotate_left
          · intro w hSw
            try dsimp only at hSw
            first | (go_simp; done) | (go_simp; with_reducible rfl)
          try simp only [Act.put, List.setIfInBounds_toArray, List.set_cons_zero, List.set_cons_succ]
          refine wpAnyV_take (i := 3) (by kernel_rfl) (by kernel_rfl) (by kernel_rfl) (by kernel_rfl) (by kernel_rfl) (⟨q3, r0, r1, hm5⟩) (fun o ho => ?_)
          conv at ho => rhs; whnf
          subst ho
          refine ⟨?_, fun _ _ _ h => h, Or.inl ⟨by rfl, ?_⟩, ?_⟩
          rotate_left
          · intro w hSw
            try dsimp only at hSw
            first | (go_simp; done) | (go_simp; with_reducible rfl)
          try simp only [Act.put, List.setIfInBounds_toArray, List.set_cons_zero, List.set_cons_succ]
          refine wpAnyV_take (i := 4) (by kernel_rfl) (by kernel_rfl) (by kernel_rfl) (by kernel_rfl) (by kernel_rfl) (⟨q3, r0, r1, hm5⟩) (fun o ho => ?_)
          conv at ho => rhs; whnf
          subst ho
          refine ⟨?_, fun _ _ _ h => h, Or.inl ⟨by rfl, ?_⟩, ?_⟩
          rotate_left
          · intro w hSw
            try dsimp only at hSw
            first | (go_simp; done) | (go_simp; with_reducible rfl)
          try simp only [Act.put, List.setIfInBounds_toArray, List.set_cons_zero, List.set_cons_succ]
          refine wpAnyV_take (i := 5) (by kernel_rfl) (by kernel_rfl) (by kernel_rfl) (by kernel_rfl) (by kernel_rfl) (⟨q3, r0, r1, hm5⟩) (fun o ho => ?_)
          conv at ho => rhs; whnf
          subst ho
          refine ⟨?_, fun _ _ _ h => h, Or.inl ⟨by rfl, ?_⟩, ?_⟩
          rotate_left
          · intro w hSw
            try dsimp only at hSw
            first | (go_simp; done) | (go_simp; with_reducible rfl)
          try simp only [Act.put, List.setIfInBounds_toArray, List.set_cons_zero, List.set_cons_succ]
          refine wpAnyV_take (i := 6) (by kernel_rfl) (by kernel_rfl) (by kernel_rfl) (by kernel_rfl) (by kernel_rfl) (⟨q3, r0, r1, hm5⟩) (fun o ho => ?_)
          conv at ho => rhs; whnf
          subst ho
          refine ⟨?_, fun _ _ _ h => h, Or.inl ⟨by rfl, ?_⟩, ?_⟩
          rotate_left
          · intro w hSw
            try dsimp only at hSw
            first | (go_simp; done) | (go_simp; with_reducible rfl)
          try simp only [Act.put, List.setIfInBounds_toArray, List.set_cons_zero, List.set_cons_succ]
          refine wpAnyV_take (i := 7) (by kernel_rfl) (by kernel_rfl) (by kernel_rfl) (by kernel_rfl) (by kernel_rfl) (⟨q3, r0, r1, hm5⟩) (fun o ho => ?_)
          conv at ho => rhs; whnf
          subst ho
          refine ⟨?_, fun _ _ _ h => h, Or.inl ⟨by rfl, ?_⟩, ?_⟩
          rotate_left
          · intro w hSw
            try dsimp only at hSw
            first | (go_simp; done) | (go_simp; with_reducible rfl)
          try simp only [Act.put, List.setIfInBounds_toArray, List.set_cons_zero, List.set_cons_succ]
          refine wpAnyV_one (i := 8) (by kernel_rfl) (by kernel_rfl) (fun o ho K hK => ?_)
          conv at ho => rhs; whnf
          subst ho
          go_simp
          refine hcl.out.mono ?_
          rintro e w7 ⟨v7, g7, rfl, hO7, hg7, hx7⟩
          obtain ⟨a7, c7, b7, o7, rfl, hr7, hgr7⟩ := hO7.read
          try go_simp
          refine hK.out _ _ (Or.inr ⟨hx7.cell q3 nb, hx7.cell r0 nb, hx7.cell r1 nb, hm5.keep ((Ext.refl NoB w5).drew.trans hx7 (fun _ _ h => h)) nb⟩) ?_
          clear hK K
          try simp only [Act.put, List.setIfInBounds_toArray, List.set_cons_zero, List.set_cons_succ]
          refine wpAnyV_one (i := 9) (by kernel_rfl) (by kernel_rfl) (fun o ho K hK => ?_)
          conv at ho => rhs; whnf
          subst ho
          refine step_mapPut (ek := pairV .i64) (ev := slV) rfl rfl key_spot Try.underlying57 (hm5.keep ((Ext.refl NoB w5).drew.trans hx7 (fun _ _ h => h)) nb) rfl (4, 0) rfl ⟨a7, exs.length - k, c7, g7, exs.drop k⟩ rfl ?_
          intro w8 hm8 hx8
          refine hK.out _ _ (Or.inl rfl) ?_
          clear hK K
          try simp only [Act.put, List.setIfInBounds_toArray, List.set_cons_zero, List.set_cons_succ]
          refine wpAnyV_done (by kernel_rfl) ?_ _
          have hO7' : SlO w7 33 2 timerE g7 (.slice a7 (exs.length - k) c7) (exs.drop k) := by rw [show (exs.length - k) = (exs.drop k).length by rw [List.length_drop]]; exact hO7
          obtain ⟨u1, u2, u3⟩ := WhAt.with_sl (W := W) (hh5.out.keep (Ext.refl NoB w5).drew (fun _ _ => nb)) (s := (4, 0)) (e' := ⟨a7, exs.length - k, c7, g7, exs.drop k⟩) (w5 := w7) (w6 := w8) (hx7.mono (fun _ _ e => e.elim)) hO7' (.inr hg7) hm8 hx8
          have htk := Lib.hid (show (exs.take k).length = k by rw [List.length_take, Nat.min_eq_left hk])
          have hx58 : Ext (fun q => q = W.r3) w5 w8 := ((Ext.refl NoB w5).drew.trans hx7 (fun _ _ h => h)).mono (fun _ _ e => e.elim) |>.trans hx8 (fun _ _ h => h)
          have hp1 : 0 < (exs.take k).length → 0 < exs.length := fun hp => by rw [List.length_take] at hp; omega
          have hne5 : 0 < exs.length → b4 ≠ W.r3 := fun hp => hr5.ne_map timerE_len (by omega) hm5 hp
          have hrt := (hr5.take timerE_len hk).keep hx58 (fun hp e1 => hne5 (hp1 hp) e1)
          have hgo : 0 < k → ¬ Wh.own { W with sl := mput W.sl (4, 0) ⟨a7, exs.length - k, c7, g7, exs.drop k⟩ } b4 := fun hp => (hh5.out.keep (Ext.refl NoB w5).drew (fun _ _ => nb)).gone hg7 (by rw [hE'.out]; exact hgr4 (by omega))
          clear hO7' hO7 hr7 hgr7 hm8 hx8 hx7 hg7
          go_wp2_with fail
          go_ret
          exact nearPost_mk (e' := ⟨a7, exs.length - k, c7, g7, exs.drop k⟩) (by rw [hE'.out]) htk.out hrt hk hlow.out hend.out rfl rfl u1 ((hx05.drew.mono (fun _ _ e => e.elim)).trans u2 (fun _ _ h => h)) (fun q hq => (u3 q hq).imp (fun h => h) (fun e => Nat.le_trans hsz5 e)) hgo

end Go.Proofs.Ytnobodgjabgikaa
