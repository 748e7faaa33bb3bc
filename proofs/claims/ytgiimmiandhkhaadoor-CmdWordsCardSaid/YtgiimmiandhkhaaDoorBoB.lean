/- The bodies: fits, IndexFunc, ContainsFunc, Ok, Steps, Equal, Clip. -/
import Derived.Test.YtgiimmiandhkhaaDoorProg
import Derived.Test.YtgiimmiandhkhaaDoorBoA
namespace Go.Proofs.YtgiimmiandhkhaaDoor
open Go.RowKit
set_option linter.unusedSimpArgs false
set_option linter.unusedVariables false
attribute [local go_sem] pairV

/-- An op. -/
structure BOp where
  k : Int
  a : Int
  b : Int
deriving DecidableEq
def opB (v : BOp) : List Value := [.int .i64 v.k, .int .i64 v.a, .int .i64 v.b]
theorem opB_len (v : BOp) : (opB v).length = 3 := rfl
theorem opB_one (t : BOp) : ∀ u ∈ opB t, u.oneCell' = true := by
  intro u hu
  simp only [opB, List.mem_cons, List.not_mem_nil, or_false] at hu
  rcases hu with rfl | rfl | rfl <;> rfl
theorem elem_op : ElemT Tryd.prog 26 81 3 24 := elemT_of (z := .agg #[.int .i64 0, .int .i64 0, .int .i64 0]) Tryd.underlying26 (by kernel_rfl) rfl (by decide)

theorem mget_perm {K V : Type} [DecidableEq K] {m l : List (K × V)} (hp : m.Perm l) (hl : (l.map (·.1)).Nodup) (x : K) : mget m x = mget l x := by
  have hm : (m.map (·.1)).Nodup := (hp.map (·.1)).nodup_iff.2 hl
  cases h : mget l x with
  | none =>
    refine mget_none.2 (fun p hpm => ?_)
    exact mget_none.1 h p (hp.mem_iff.1 hpm)
  | some v => exact mget_of_mem hm (hp.mem_iff.2 (mem_of_mget h))

/-- From where to where a number may be. -/
def spanOf (k i : Int) : Int × Int := (mget spansL (k, i)).getD (0, 0)
def fitsB (o : BOp) : Bool := decide (1 ≤ o.k) && decide (o.k ≤ 5) && (decide ((spanOf o.k 0).1 ≤ o.a) && decide (o.a ≤ (spanOf o.k 0).2)) && (decide ((spanOf o.k 1).1 ≤ o.b) && decide (o.b ≤ (spanOf o.k 1).2))
theorem ar2_at0 (a b : Int) (w : World) : (Instr.index 52 (.agg #[.int .i64 a, .int .i64 b]) (.int .i64 0)).run Tryd.prog w = .ok (.int .i64 a) w := by kernel_rfl
theorem ar2_at1 (a b : Int) (w : World) : (Instr.index 52 (.agg #[.int .i64 a, .int .i64 b]) (.int .i64 1)).run Tryd.prog w = .ok (.int .i64 b) w := by kernel_rfl
theorem zero_span (w : World) : (zeroValue 139).run Tryd.prog w = .ok (pairV .i64 (0, 0)) w := by kernel_rfl
theorem span_look {w : World} {r : Nat} {m : List ((Int × Int) × (Int × Int))} (hM : MapAt w r (pairV .i64) (pairV .i64) m) (hp : m.Perm spansL) (k i : Int) :
    (Instr.lookup 111 (.map (some r)) (.agg #[.int .i64 k, .int .i64 i]) false).run Tryd.prog w = .ok (.agg #[.int .i64 (spanOf k i).1, .int .i64 (spanOf k i).2]) w := by
  have := hM.run_lookup key_shape Tryd.underlying111 (z := (0, 0)) zero_span (k, i) false
  simp only [Bool.false_eq_true, if_false, mget_perm hp (by decide)] at this
  exact this

set_option maxRecDepth 20000 in
set_option maxHeartbeats 4000000 in
theorem fits_calls (o : BOp) (r : Nat) (m : List ((Int × Int) × (Int × Int))) (w : World) (hM : MapAt w r (pairV .i64) (pairV .i64) m) (hp : m.Perm spansL) :
    Calls Tryd.prog 73 #[.agg #[.int .i64 o.k, .int .i64 o.a, .int .i64 o.b], .map (some r)] w fun e w' => e = .returned (.bool (fitsB o)) ∧ Ext NoB w w' := by
  obtain ⟨k, a, b⟩ := o
  dsimp only
  by_cases hk1 : k < 1
  · have hv : Hid (fitsB ⟨k, a, b⟩ = false) := by show _ = _; have : ¬ 1 ≤ k := (by omega); simp [fitsB, this]
    have t1 : decide (k < 1) = true := by simp [hk1]
    go_enter Tryd.func73, Tryd.ntmps73
    go_wp2_with fail
    go_ret
    exact ⟨by rw [hv.out]; rfl, (Ext.refl _ _).alloc _⟩
  · have t1 : decide (k < 1) = false := by simp; omega
    by_cases hk5 : 5 < k
    · have hv : Hid (fitsB ⟨k, a, b⟩ = false) := by show _ = _; have : ¬ k ≤ 5 := (by omega); simp [fitsB, this]
      have t2 : decide (5 < k) = true := by simp [hk5]
      go_enter Tryd.func73, Tryd.ntmps73
      go_wp2_with fail
      go_ret
      exact ⟨by rw [hv.out]; rfl, (Ext.refl _ _).alloc _⟩
    · have t2 : decide (5 < k) = false := by simp; omega
      have hv : Hid (fitsB ⟨k, a, b⟩ = ((decide ((spanOf k 0).1 ≤ a) && decide (a ≤ (spanOf k 0).2)) && (decide ((spanOf k 1).1 ≤ b) && decide (b ≤ (spanOf k 1).2)))) := by
        show _ = _
        have h1 : 1 ≤ k := by omega
        have h2 : k ≤ 5 := by omega
        simp [fitsB, h1, h2]
      have hlk := Lib.hid (fun (w' : World) (x : Ext NoB w w') (i : Int) => span_look (hM.keep x nb) hp k i)
      have hx0 : Ext NoB w (w.alloc (.cells #[.int .i64 k, .int .i64 a, .int .i64 b] 81)) := (Ext.refl NoB w).alloc _
      have hb0 := alloc_at w (.cells #[.int .i64 k, .int .i64 a, .int .i64 b] 81)
      generalize hs0 : spanOf k 0 = s0 at *
      generalize hs1 : spanOf k 1 = s1 at *
      have hs0' := Lib.hid hs0
      have hs1' := Lib.hid hs1
      clear hs0 hs1 hM
      obtain ⟨l0, u0⟩ := s0
      obtain ⟨l1, u1⟩ := s1
      dsimp only at hv
      have i0 := ar2_at0 a b
      have i1 := ar2_at1 a b
      go_enter Tryd.func73, Tryd.ntmps73
      go_wp2_with fail
      obtain ⟨bo, hbo⟩ : ∃ bo, w.heap.size = bo := ⟨_, rfl⟩
      rw [hbo] at hb0 ⊢
      clear hbo
      go_loopw [21] (fun i wr => (i = .int .i64 0 ∨ (i = .int .i64 1 ∧ l0 ≤ a ∧ a ≤ u0) ∨ (i = .int .i64 2 ∧ l0 ≤ a ∧ a ≤ u0 ∧ l1 ≤ b ∧ b ≤ u1)) ∧ Ext NoB w wr ∧ wr.heap[bo]? = some (.cells #[.int .i64 k, .int .i64 a, .int .i64 b] 81 (0, 0))) (fun i _ => 2 - (intOf i).toNat)
      case atStart => exact ⟨.inl rfl, hx0, hb0⟩
      case round =>
        obtain ⟨hi, hext, hb⟩ := hrel
        have f0 : wr.cell? ⟨bo, 0, none⟩ = some (.int .i64 k) := by rw [cell_of_row wr bo 0 _ _ (0, 0) hb]; rfl
        have f1 : wr.cell? ⟨bo, 1, none⟩ = some (.int .i64 a) := by rw [cell_of_row wr bo 1 _ _ (0, 0) hb]; rfl
        have f2 : wr.cell? ⟨bo, 2, none⟩ = some (.int .i64 b) := by rw [cell_of_row wr bo 2 _ _ (0, 0) hb]; rfl
        rcases hi with rfl | ⟨rfl, ha1, ha2⟩ | ⟨rfl, ha1, ha2, hb1, hb2⟩
        · have q0 := hlk.out wr hext 0
          rw [hs0'.out] at q0
          dsimp only at q0
          by_cases h1 : a < l0
          · have t3 : decide (a < l0) = true := by simp [h1]
            have hf : Hid (fitsB ⟨k, a, b⟩ = false) := by show _ = _; rw [hv.out]; have : ¬ l0 ≤ a := (by omega); simp [this]
            go_wp2_with fail
            go_ret
            exact ⟨by rw [hf.out]; rfl, hext.alloc _⟩
          · have t3 : decide (a < l0) = false := by simp; omega
            by_cases h2 : u0 < a
            · have t4 : decide (u0 < a) = true := by simp [h2]
              have hf : Hid (fitsB ⟨k, a, b⟩ = false) := by show _ = _; rw [hv.out]; have : ¬ a ≤ u0 := (by omega); simp [this]
              go_wp2_with fail
              go_ret
              exact ⟨by rw [hf.out]; rfl, hext.alloc _⟩
            · have t4 : decide (u0 < a) = false := by simp; omega
              go_wp2_with fail
              go_roundw
              case rel => exact ⟨.inr (.inl ⟨rfl, by omega, by omega⟩), hext.alloc _, ((Ext.refl NoB wr).alloc _).keep hb nb⟩
              case measure => simp [intOf]
        · have q0 := hlk.out wr hext 1
          rw [hs1'.out] at q0
          dsimp only at q0
          by_cases h1 : b < l1
          · have t3 : decide (b < l1) = true := by simp [h1]
            have hf : Hid (fitsB ⟨k, a, b⟩ = false) := by show _ = _; rw [hv.out]; have : ¬ l1 ≤ b := (by omega); simp [this]
            go_wp2_with fail
            go_ret
            exact ⟨by rw [hf.out]; rfl, hext.alloc _⟩
          · have t3 : decide (b < l1) = false := by simp; omega
            by_cases h2 : u1 < b
            · have t4 : decide (u1 < b) = true := by simp [h2]
              have hf : Hid (fitsB ⟨k, a, b⟩ = false) := by show _ = _; rw [hv.out]; have : ¬ b ≤ u1 := (by omega); simp [this]
              go_wp2_with fail
              go_ret
              exact ⟨by rw [hf.out]; rfl, hext.alloc _⟩
            · have t4 : decide (u1 < b) = false := by simp; omega
              go_wp2_with fail
              go_roundw
              case rel => exact ⟨.inr (.inr ⟨rfl, by omega, by omega, by omega, by omega⟩), hext.alloc _, ((Ext.refl NoB wr).alloc _).keep hb nb⟩
              case measure => simp [intOf]
        · have hf : Hid (fitsB ⟨k, a, b⟩ = true) := by show _ = _; rw [hv.out]; simp [ha1, ha2, hb1, hb2]
          go_wp2_with fail
          go_ret
          exact ⟨by rw [hf.out]; rfl, hext⟩

/-! ### predicates -/
def idxV (p : BOp → Bool) (xs : List BOp) : Int := match xs.findIdx? p with | some i => i | none => -1

theorem okF_calls (o : BOp) (bi r : Nat) (m : List ((Int × Int) × (Int × Int))) (w : World) (hc : w.cell? ⟨bi, 0, none⟩ = some (.map (some r))) (hM : MapAt w r (pairV .i64) (pairV .i64) m) (hp : m.Perm spansL) :
    Calls Tryd.prog 72 #[.agg #[.int .i64 o.k, .int .i64 o.a, .int .i64 o.b], .pointer (some ⟨bi, 0, none⟩)] w fun e w' => e = .returned (.bool (!fitsB o)) ∧ Ext NoB w w' := by
  have hM1 := hM.keep ((Ext.refl NoB w).alloc (.cells #[.int .i64 o.k, .int .i64 o.a, .int .i64 o.b] 81)) nb
  have hlt := World.block_lt_of_cell? w _ hc
  go_enter Tryd.func72, Tryd.ntmps72
  go_wp2_with fail
  refine (fits_calls o r m _ hM1 hp).mono ?_
  rintro e w1 ⟨rfl, hx⟩
  generalize hv : fitsB o = v at *
  have hv' := Lib.hid hv
  clear hv
  go_wp2_with fail
  go_ret
  exact ⟨by rw [hv'.out]; rfl, ((Ext.refl NoB w).alloc _).trans hx (fun _ _ e => e)⟩
set_option maxHeartbeats 2000000 in
theorem indexO_calls (A : Option Addr) (c b o : Nat) (xs : List BOp) (bi : Nat) (p : BOp → Bool) (w : World) (hx : SlR w 3 opB A c b o xs)
    (hf : ∀ (x : BOp) (w' : World), Ext NoB w w' → Calls Tryd.prog 72 #[.agg #[.int .i64 x.k, .int .i64 x.a, .int .i64 x.b], .pointer (some ⟨bi, 0, none⟩)] w' fun e w'' => e = .returned (.bool (p x)) ∧ Ext NoB w' w'') :
    Calls Tryd.prog 91 #[.slice A xs.length c, .func (.func 72) #[] #[.pointer (some ⟨bi, 0, none⟩)]] w fun e w' => e = .returned (.int .i64 (idxV p xs)) ∧ Ext NoB w w' := by
  have hl := hx.le
  have hm := hx.max
  unfold maxLen at hm
  have hf' := Lib.hid hf
  clear hf
  go_enter Tryd.func91, Tryd.ntmps91
  go_wp2_with fail
  go_loopw [8] (fun i wr => ∃ k : Nat, k ≤ xs.length ∧ i = .int .i64 k ∧ Hid ((xs.take k).findIdx? p = none) ∧ Ext NoB w wr) (fun i _ => xs.length - (intOf i).toNat)
  case atStart => exact ⟨0, Nat.zero_le _, rfl, rfl, Ext.refl _ _⟩
  case round =>
    obtain ⟨k, hk, rfl, hno, hext⟩ := hrel
    by_cases hlt : k < xs.length
    · have t0 : decide (k < xs.length) = true := by simp [hlt]
      obtain rfl := hx.addr (by omega)
      have hxe := hx.keep hext nb1
      have e0 := hxe.cell opB_len k xs[k] (List.getElem?_eq_getElem hlt) 0 _ rfl
      have e1 := hxe.cell opB_len k xs[k] (List.getElem?_eq_getElem hlt) 1 _ rfl
      have e2 := hxe.cell opB_len k xs[k] (List.getElem?_eq_getElem hlt) 2 _ rfl
      rw [Nat.add_zero] at e0
      have htk := Lib.hid (List.take_succ_eq_append_getElem hlt)
      have hgl := Lib.hid (List.take_append_drop k xs)
      have hdr := Lib.hid (List.drop_eq_getElem_cons hlt)
      have hcall := Lib.hid (hf'.out xs[k] wr hext)
      generalize xs[k] = u at *
      obtain ⟨uk, ua, ub⟩ := u
      dsimp only at e0 e1 e2
      go_wp2_with fail
      refine hcall.out.mono ?_
      rintro e w2 ⟨rfl, hx2⟩
      cases hp : p ⟨uk, ua, ub⟩ with
      | true =>
        have hv : Hid (idxV p xs = (k : Int)) := by
          show _ = _
          unfold idxV
          have h1 : xs.findIdx? p = some k := by
            rw [← hgl.out, List.findIdx?_append, hno.out, hdr.out]
            simp [List.findIdx?_cons, hp]
            omega
          rw [h1]
        have hp' := Lib.hid hp
        clear hp
        go_wp2_with fail
        go_ret
        exact ⟨by rw [hv.out]; rfl, hext.trans hx2 (fun _ _ e => e)⟩
      | false =>
        have hp' := Lib.hid hp
        clear hp
        go_wp2_with fail
        go_roundw
        case rel =>
          refine ⟨k + 1, by omega, by go_num, ?_, hext.trans hx2 (fun _ _ e => e)⟩
          show _ = _
          rw [htk.out, List.findIdx?_append, hno.out]
          simp [hp'.out]
        case measure => simp [intOf]; omega
    · have t0 : decide (k < xs.length) = false := by simp [hlt]
      have hv : Hid (idxV p xs = -1) := by
        show _ = _
        unfold idxV
        have := hno.out
        rw [List.take_of_length_le (by omega)] at this
        rw [this]
      go_wp2_with fail
      go_ret
      exact ⟨by rw [hv.out]; rfl, hext⟩

theorem containsO_calls (A : Option Addr) (c b o : Nat) (xs : List BOp) (bi : Nat) (p : BOp → Bool) (w : World) (hx : SlR w 3 opB A c b o xs)
    (hf : ∀ (x : BOp) (w' : World), Ext NoB w w' → Calls Tryd.prog 72 #[.agg #[.int .i64 x.k, .int .i64 x.a, .int .i64 x.b], .pointer (some ⟨bi, 0, none⟩)] w' fun e w'' => e = .returned (.bool (p x)) ∧ Ext NoB w' w'') :
    Calls Tryd.prog 71 #[.slice A xs.length c, .func (.func 72) #[] #[.pointer (some ⟨bi, 0, none⟩)]] w fun e w' => e = .returned (.bool (xs.any p)) ∧ Ext NoB w w' := by
  have hidx : decide (0 ≤ idxV p xs) = xs.any p := by
    unfold idxV
    cases h : xs.findIdx? p with
    | none =>
      rw [List.findIdx?_eq_none_iff] at h
      have : xs.any p = false := by rw [List.any_eq_false]; intro x hx; rw [h x hx]; simp
      rw [this]; rfl
    | some i =>
      have h1 := List.findIdx?_eq_some_iff_getElem.1 h
      obtain ⟨h2, h3, _⟩ := h1
      have : xs.any p = true := List.any_eq_true.2 ⟨xs[i], List.getElem_mem h2, h3⟩
      rw [this]
      simp
  have hidx' := Lib.hid hidx
  clear hidx
  go_enter Tryd.func71, Tryd.ntmps71
  go_wp2_with fail
  refine (indexO_calls A c b o xs bi p w hx hf).mono ?_
  rintro e w1 ⟨rfl, hx1⟩
  go_wp2_with fail
  go_ret
  exact ⟨by rw [← hidx'.out]; rfl, hx1⟩

/-- Is a body as it should be? -/
def okB (l : List BOp) : Bool := decide (l.length ≤ 16) && l.all fitsB
set_option maxHeartbeats 2000000 in
theorem ok_calls (A : Option Addr) (c b o : Nat) (xs : List BOp) (w : World) (hx : SlR w 3 opB A c b o xs) :
    Calls Tryd.prog 51 #[.slice A xs.length c] w fun e w' => e = .returned (.bool (okB xs)) ∧ Ext NoB w w' := by
  have hl := hx.le
  have hm := hx.max
  unfold maxLen at hm
  go_enter Tryd.func51, Tryd.ntmps51
  go_wp2_with fail
  refine (spans_calls w).mono ?_
  rintro e w1 ⟨r, m, rfl, hM, hp, hx1, _⟩
  have hM2 := hM.keep ((Ext.refl NoB w1).alloc (.cells #[.map (some r)] 111)) nb
  have hc2 := one_at w1 (.map (some r)) 111
  have hx2 := hx1.alloc (.cells #[.map (some r)] 111)
  by_cases h16 : xs.length ≤ 16
  · have t0 : decide (xs.length ≤ 16) = true := by simp [h16]
    have t0' : decide ((xs.length : Int) ≤ 16) = true := by simp; omega
    have hv : Hid (okB xs = !(xs.any (fun x => !fitsB x))) := by
      show _ = _
      unfold okB
      rw [t0, Bool.true_and]
      rw [Bool.eq_iff_iff]
      simp [List.all_eq_true]
    go_wp2_with fail
    refine (containsO_calls A c b o xs w1.heap.size (fun x => !fitsB x) _ (hx.keep hx2 nb1) (fun x w' hw => okF_calls x w1.heap.size r m w' (hw.cell hc2 nb) (hM2.keep hw nb) hp)).mono ?_
    rintro e w3 ⟨rfl, hx3⟩
    generalize hu : xs.any (fun x => !fitsB x) = u at *
    have hu' := Lib.hid hu
    clear hu
    go_wp2_with fail
    go_ret
    exact ⟨by rw [hv.out]; rfl, hx2.trans hx3 (fun _ _ e => e)⟩
  · have t0 : decide (xs.length ≤ 16) = false := by simp; omega
    have t0' : decide ((xs.length : Int) ≤ 16) = false := by simp; omega
    have hv : Hid (okB xs = false) := by
      show _ = _
      unfold okB
      rw [t0]; rfl
    go_wp2_with fail
    go_ret
    exact ⟨by rw [hv.out]; rfl, hx2⟩

/-- How many ops are done. -/
def stepsV (l : List BOp) : Int := if idxV (fun o => decide (o.k = 5)) l < 0 then l.length else idxV (fun o => decide (o.k = 5)) l + 1
theorem idxV_lt (p : BOp → Bool) (l : List BOp) : -1 ≤ idxV p l ∧ idxV p l < l.length ∨ (l = [] ∧ idxV p l = -1) := by
  unfold idxV
  cases h : l.findIdx? p with
  | none =>
    cases l with
    | nil => exact .inr ⟨rfl, rfl⟩
    | cons x l => left; simp; omega
  | some i =>
    have := (List.findIdx?_eq_some_iff_getElem.1 h).1
    left
    show -1 ≤ (i : Int) ∧ (i : Int) < _
    omega
set_option maxHeartbeats 2000000 in
theorem sameB_calls (A1 : Option Addr) (c1 b1 o1 : Nat) (xs : List BOp) (A2 : Option Addr) (c2 b2 o2 : Nat) (ys : List BOp) (w : World) (h1 : SlR w 3 opB A1 c1 b1 o1 xs) (h2 : SlR w 3 opB A2 c2 b2 o2 ys) :
    Calls Tryd.prog 40 #[.slice A1 xs.length c1, .slice A2 ys.length c2] w fun e w' => e = .returned (.bool (decide (xs = ys))) ∧ Ext NoB w w' := by
  have hl1 := h1.le
  have hm1 := h1.max
  have hl2 := h2.le
  have hm2 := h2.max
  unfold maxLen at hm1 hm2
  by_cases hlen : xs.length = ys.length
  · have t0 : ((xs.length : Int) != (ys.length : Int)) = false := by simp; omega
    have hlen' := Lib.hid hlen
    clear hlen
    go_enter Tryd.func40, Tryd.ntmps40
    go_wp2_with fail
    go_loopw [13] (fun i wz => ∃ t : Nat, t ≤ xs.length ∧ i = .int .i64 t ∧ Hid (∀ j (h : j < xs.length) (h' : j < ys.length), j < t → xs[j] = ys[j]) ∧ Ext NoB w wz) (fun i _ => xs.length - (intOf i).toNat)
    case atStart => exact ⟨0, Nat.zero_le _, rfl, fun j _ _ h => absurd h (Nat.not_lt_zero _), Ext.refl _ _⟩
    case round =>
      obtain ⟨t, htl, rfl, hno, hxz⟩ := hrel
      by_cases htt : t < xs.length
      · have htt2 : t < ys.length := by have := hlen'.out; omega
        have t2 : decide (t < xs.length) = true := by simp [htt]
        obtain rfl := h1.addr (by omega)
        obtain rfl := h2.addr (by omega)
        have e60 := (h1.keep hxz nb1).cell opB_len t xs[t] (List.getElem?_eq_getElem htt) 0 _ rfl
        have e61 := (h1.keep hxz nb1).cell opB_len t xs[t] (List.getElem?_eq_getElem htt) 1 _ rfl
        have e62 := (h1.keep hxz nb1).cell opB_len t xs[t] (List.getElem?_eq_getElem htt) 2 _ rfl
        have e70 := (h2.keep hxz nb1).cell opB_len t ys[t] (List.getElem?_eq_getElem htt2) 0 _ rfl
        have e71 := (h2.keep hxz nb1).cell opB_len t ys[t] (List.getElem?_eq_getElem htt2) 1 _ rfl
        have e72 := (h2.keep hxz nb1).cell opB_len t ys[t] (List.getElem?_eq_getElem htt2) 2 _ rfl
        rw [Nat.add_zero] at e60 e70
        have hstep : Hid (xs[t] = ys[t] → ∀ j (h : j < xs.length) (h' : j < ys.length), j < t + 1 → xs[j] = ys[j]) := fun he j h h' hj => by
          by_cases hjt : j = t
          · subst hjt; exact he
          · exact hno.out j h h' (by omega)
        have hbad : Hid (xs[t] ≠ ys[t] → decide (xs = ys) = false) := fun hne => decide_eq_false (fun e => hne (by subst e; rfl))
        generalize xs[t] = u at *
        generalize ys[t] = v at *
        obtain ⟨uk, ua, ub⟩ := u
        obtain ⟨vk, va, vb⟩ := v
        dsimp only at e60 e61 e62 e70 e71 e72
        by_cases q1 : uk = vk
        · subst q1
          by_cases q2 : ua = va
          · subst q2
            by_cases q3 : ub = vb
            · subst q3
              go_wp2_with fail
              go_quiet (fail)
              go_wp2_with fail
              go_roundw
              case rel => exact ⟨t + 1, by omega, by go_num, hstep.out (by simp), hxz.drewN _⟩
              case measure => simp [intOf]; omega
            · have hf := Lib.hid (hbad.out (fun e => q3 (by injection e)))
              have p3 : (ub == vb) = false := by simp [q3]
              go_wp2_with fail
              go_quiet (fail)
              go_wp2_with fail
              go_ret
              exact ⟨by rw [hf.out]; rfl, hxz.drewN _⟩
          · have hf := Lib.hid (hbad.out (fun e => q2 (by injection e)))
            have p2 : (ua == va) = false := by simp [q2]
            go_wp2_with fail
            go_quiet (fail)
            go_wp2_with fail
            go_ret
            exact ⟨by rw [hf.out]; rfl, hxz.drewN _⟩
        · have hf := Lib.hid (hbad.out (fun e => q1 (by injection e)))
          have p1 : (uk == vk) = false := by simp [q1]
          go_wp2_with fail
          go_quiet (fail)
          go_wp2_with fail
          go_ret
          exact ⟨by rw [hf.out]; rfl, hxz.drewN _⟩
      · have t2 : decide (t < xs.length) = false := by simp [htt]
        have hf : Hid (decide (xs = ys) = true) := by
          show _ = _
          rw [decide_eq_true_iff]
          exact List.ext_getElem hlen'.out (fun j h h' => hno.out j h h' (by omega))
        go_wp2_with fail
        go_ret
        exact ⟨by rw [hf.out]; rfl, hxz⟩
  · have t0 : ((xs.length : Int) != (ys.length : Int)) = true := by simp; omega
    have hf : Hid (decide (xs = ys) = false) := by
      show _ = _
      rw [decide_eq_false_iff_not]
      exact fun e => hlen (by rw [e])
    clear hlen
    go_enter Tryd.func40, Tryd.ntmps40
    go_wp2_with fail
    go_ret
    exact ⟨by rw [hf.out]; rfl, Ext.refl _ _⟩
theorem same_calls (A1 : Option Addr) (c1 b1 o1 : Nat) (xs : List BOp) (A2 : Option Addr) (c2 b2 o2 : Nat) (ys : List BOp) (w : World) (h1 : SlR w 3 opB A1 c1 b1 o1 xs) (h2 : SlR w 3 opB A2 c2 b2 o2 ys) :
    Calls Tryd.prog 25 #[.slice A1 xs.length c1, .slice A2 ys.length c2] w fun e w' => e = .returned (.bool (decide (xs = ys))) ∧ Ext NoB w w' := by
  go_enter Tryd.func25, Tryd.ntmps25
  go_wp2_with fail
  refine (sameB_calls A1 c1 b1 o1 xs A2 c2 b2 o2 ys w h1 h2).mono ?_
  rintro e w1 ⟨rfl, hx⟩
  generalize hv : decide (xs = ys) = v at *
  have hv' := Lib.hid hv
  clear hv
  go_wp2_with fail
  go_ret
  exact ⟨by rw [hv'.out]; rfl, hx⟩

end Go.Proofs.YtgiimmiandhkhaaDoor
