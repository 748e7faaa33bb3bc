/- The wheel: Clone, Clip, Delete, Insert at timers. -/
import Derived.Test.YtnobodgjabgikaaProg
import Derived.Test.YtnobodgjabgikaaWhB
import Derived.Test.YtnobodgjabgikaaCop
import Derived.Deep.RegionLaw
import Derived.Lib.Overlaps
import Derived.WalkSpells
import Derived.Lib.SliceRun
namespace Go.Proofs.Ytnobodgjabgikaa
open Go.RowKit Go.Sort
set_option linter.unusedSimpArgs false
set_option linter.unusedVariables false

/-- An address as append leaves it. -/
def Can (A : Option Addr) (c : Nat) : Prop := (A = none ∧ c = 0) ∨ ∃ b o, A = some ⟨b, o, none⟩
theorem SlO.can {w : World} {α : Type} {E : TypeId} {k : Nat} {enc : α → List Value} {g : Option Nat} {A : Option Addr} {n c : Nat} {xs : List α} (h : SlO w E k enc g (.slice A n c) xs) : Can A c := by
  rcases h.get with h | ⟨b, o, c', h⟩
  · simp only [Value.slice.injEq] at h
    exact .inl ⟨h.1, h.2.2⟩
  · simp only [Value.slice.injEq] at h
    exact .inr ⟨b, o, h.1⟩
theorem slR_nil {w : World} {α : Type} {k : Nat} {enc : α → List Value} {A : Option Addr} {c b o : Nat} {xs : List α} (h : xs = []) (hc : c ≤ maxLen) : SlR w k enc A c b o xs := by
  subst h
  exact ⟨by simp, by simp, hc, by intro j u hu; simp at hu⟩
theorem SlR.lt {w : World} {A : Option Addr} {c b o : Nat} {xs : List Tm} (h : SlR w 2 timerE A c b o xs) (hp : 0 < xs.length) : b < w.heap.size := by
  obtain ⟨r, hr⟩ : ∃ r, xs[0]? = some r := ⟨_, List.getElem?_eq_getElem hp⟩
  exact World.block_lt_of_cell? w ⟨b, o + 0 * 2 + 0, none⟩ (h.cell timerE_len 0 r hr 0 _ rfl)

set_option maxHeartbeats 1000000 in
theorem clone_calls (A : Option Addr) (c b o : Nat) (xs : List Tm) (w : World) (hx : SlR w 2 timerE A c b o xs) (hcan : Can A c) (hL : xs.length ≤ 1000000) :
    Calls Try.prog 23 #[.slice A xs.length c] w fun e w' => ∃ v g, e = .returned v ∧ SlO w' 33 2 timerE g v xs ∧ (∀ q, g = some q → w.heap.size ≤ q) ∧ Ext NoB w w' := by
  have q22 : ∀ (w : World) (a : Option Addr) (n c n' c' : Nat), (binOp .eql 28 (.slice a n c) (.slice none n' c')).run Try.prog w = .ok (.bool a.isNone) w := fun w a n c n' c' => Lib.run_eql_slice_nil w _ _ a n c n' c' Try.underlying28
  rcases hcan with ⟨rfl, rfl⟩ | ⟨b1, o1, rfl⟩
  · have hnil : xs = [] := List.eq_nil_of_length_eq_zero (Classical.byContradiction fun hn => by have := hx.addr (by omega); cases this)
    subst hnil
    go_enter Try.func23, Try.ntmps23
    go_wp2_with fail
    go_ret
    exact ⟨_, none, rfl, SlO.nil _ _ _ _, by simp, Ext.refl _ _⟩
  · have hle := hx.le
    have hmx := hx.max
    have hb1 : (([] : List Tm).length + xs.length) * 16 ≤ 140737488355328 := by simp; omega
    have hb2 : ([] : List Tm).length + xs.length ≤ maxLen := by unfold maxLen; simp; omega
    have hal := alloc_at w (.cells #[] 33)
    have hO : SlO (w.alloc (.cells #[] 33)) 33 2 timerE (some w.heap.size) (.slice (some ⟨w.heap.size, 0, none⟩) 0 0) ([] : List Tm) := SlO.made (xs := ([] : List Tm)) hal rfl timerE_len (Nat.zero_le _)
    go_enter Try.func23, Try.ntmps23
    go_wp2_with (at_builtin; go_loud (refine wpList_appendO rfl rfl elem_tm timerE_len timerE_one hO rfl (hx.keep ((Ext.refl NoB w).alloc _) nb1) rfl rfl hb1 hb2 (fun v' w5 g' hO' hx5 hg' => ?_)))
    go_ret
    rw [List.nil_append] at hO'
    exact ⟨_, g', rfl, hO', fun q hq => by
      rcases hg' with rfl | rfl
      · simp at hq; omega
      · simp at hq; omega, ((Ext.refl NoB w).alloc _).trans hx5 (fun i hi e => by simp at e; omega)⟩

set_option maxHeartbeats 1000000 in
theorem clip_calls (g : Option Nat) (v : Value) (xs : List Tm) (w : World) (h : SlO w 33 2 timerE g v xs) :
    Calls Try.prog 29 #[v] w fun e w' => ∃ v', e = .returned v' ∧ SlO w 33 2 timerE g v' xs ∧ w = w' := by
  rcases h with ⟨rfl, rfl, rfl⟩ | ⟨b, o, c, cur, rfl, rfl, hh, hl, hm, hf, ht⟩
  · go_enter Try.func29, Try.ntmps29
    go_wp2_with fail
    go_ret
    exact ⟨_, rfl, SlO.nil _ _ _ _, rfl⟩
  · have hm' := hm
    unfold maxLen at hm'
    have hO : SlO w 33 2 timerE (some b) (.slice (some ⟨b, o, none⟩) xs.length xs.length) xs := .inr ⟨b, o, xs.length, cur, rfl, rfl, hh, Nat.le_refl _, Nat.le_trans hl hm, by omega, ht⟩
    have hi : (xs.length : Int) ≤ (c : Int) := by omega
    clear hf ht hh hm
    go_enter Try.func29, Try.ntmps29
    go_wp2_with fail
    go_ret
    exact ⟨_, rfl, hO, rfl⟩

theorem zeroTm (w : World) : (zeroValue 33).run Try.prog w = .ok (.agg #[.int .u64 0, .int .i64 0]) w := by kernel_rfl
theorem zcells : (Builtin.zeroCells (Value.agg #[.int .u64 0, .int .i64 0]).cells 1).toList = timerE (0, 0) := by simp [Builtin.zeroCells, Value.cells]; rfl

theorem flat_mid (xs : List Tm) (i : Nat) (h : i < xs.length) : xs.flatMap timerE = (xs.take i).flatMap timerE ++ timerE xs[i] ++ (xs.drop (i + 1)).flatMap timerE := by
  have e : xs = xs.take i ++ xs[i] :: xs.drop (i + 1) := by rw [← List.drop_eq_getElem_cons h, List.take_append_drop]
  conv => lhs; rw [e]
  simp only [List.flatMap_append, List.flatMap_cons, List.append_assoc]
theorem erase_mid {α : Type} (xs : List α) (i : Nat) : xs.eraseIdx i = xs.take i ++ xs.drop (i + 1) := List.eraseIdx_eq_take_drop_succ xs i

set_option maxRecDepth 100000 in
set_option maxHeartbeats 2000000 in
theorem delete_calls (g : Option Nat) (v : Value) (xs : List Tm) (i : Nat) (w : World) (h : SlO w 33 2 timerE g v xs) (hi : i < xs.length) (hL : xs.length ≤ 1000000) :
    Calls Try.prog 31 #[v, .int .i64 i, .int .i64 (i + 1)] w fun e w' => ∃ v', e = .returned v' ∧ SlO w' 33 2 timerE g v' (xs.eraseIdx i) ∧ Ext (fun q => g = some q) w w' := by
  obtain ⟨b, c, cur, p, r, rfl, rfl, hh, hl, hm, hc, hr⟩ := h.parts timerE_len (fun e => by
    rcases h with ⟨_, hx, _⟩ | ⟨_, _, _, _, _, hv, _⟩
    · rw [hx] at hi; simp at hi
    · rw [hv] at e; cases e)
  obtain ⟨m, hmn⟩ : ∃ m, xs.length = m + 1 := ⟨xs.length - 1, by omega⟩
  have hfx : ((xs.take i).flatMap timerE).length = i * 2 := by rw [flat_len timerE_len, List.length_take, Nat.min_eq_left (by omega)]
  have hfy : ((xs.drop (i + 1)).flatMap timerE).length = (m - i) * 2 := by rw [flat_len timerE_len, List.length_drop]; congr 1; omega
  rw [flat_mid xs i hi] at hc
  have hres : ∀ (w2 : World) (cur2 : Array Value), w2.heap[b]? = some (.cells cur2 33 (0, 0)) → cur2.toList = p ++ (xs.take i).flatMap timerE ++ (xs.drop (i + 1)).flatMap timerE ++ (timerE (0, 0) ++ r) → SlO w2 33 2 timerE (some b) (.slice (some ⟨b, p.length, none⟩) m c) (xs.eraseIdx i) := fun w2 cur2 h2 hc2 => by
    have hlen : (xs.eraseIdx i).length = m := by rw [List.length_eraseIdx, if_pos hi]; omega
    have := SlO.of_parts (w := w2) (k := 2) (enc := timerE) (E := 33) (xs := xs.eraseIdx i) (p := p) (r := timerE (0, 0) ++ r) timerE_len h2 (by omega) hm (by rw [hc2, erase_mid, List.flatMap_append]; simp) (by rw [hlen]; simp only [List.length_append, timerE_len]; rw [Nat.sub_mul] at *; omega)
    rw [hlen] at this
    exact this
  have hcur1 : ∃ d e : List Value, cur.toList = (p ++ (xs.take i).flatMap timerE) ++ d ++ (e ++ r) ∧ d.length = ((xs.drop (i + 1)).flatMap timerE).length ∧ e.length = 2 := by
    refine ⟨(timerE xs[i] ++ (xs.drop (i + 1)).flatMap timerE).take ((xs.drop (i + 1)).flatMap timerE).length, (timerE xs[i] ++ (xs.drop (i + 1)).flatMap timerE).drop ((xs.drop (i + 1)).flatMap timerE).length, ?_, ?_, ?_⟩
    · rw [hc]
      simp only [List.append_assoc]
      rw [← List.append_assoc (List.take _ _), List.take_append_drop]
      simp
    · rw [List.length_take, List.length_append]; omega
    · rw [List.length_drop, List.length_append, timerE_len]; omega
  obtain ⟨d, e, hc1, hd1, he1⟩ := hcur1
  have hone : ∀ u ∈ (xs.drop (i + 1)).flatMap timerE, u.oneCell' = true := fun u hu => by obtain ⟨x, _, hx⟩ := List.mem_flatMap.1 hu; exact timerE_one x u hx
  generalize hfX : (xs.take i).flatMap timerE = fX at *
  generalize hfY : (xs.drop (i + 1)).flatMap timerE = fY at *
  have hpl : (p ++ fX).length = p.length + i * 2 := by rw [List.length_append, hfx]
  have hsrc : ∀ (A : Addr), (if c = i + 1 then (⟨b, p.length, none⟩ : Addr) else ⟨b, p.length + (i + 1) * 2, none⟩) = A → ∀ j u, fY[j]? = some u → w.drew.cell? (A.add j) = some u := fun A hA j u hu => by
    subst hA
    by_cases hci : c = i + 1
    · have : fY.length = 0 := by rw [hfy]; omega
      rw [List.length_eq_zero_iff.1 this] at hu
      simp at hu
    · rw [if_neg hci, Addr.add_lit]
      have := read_part (w := w) (p := p ++ fX ++ timerE xs[i]) (vs := fY) (r := r) hh (by rw [hc]; simp) j u hu
      rw [List.length_append, hpl, timerE_len] at this
      rw [show p.length + (i + 1) * 2 = p.length + i * 2 + 2 by omega]
      exact this
  have hrun : ∀ (A : Addr), (if c = i + 1 then (⟨b, p.length, none⟩ : Addr) else ⟨b, p.length + (i + 1) * 2, none⟩) = A → ∀ ty, (Builtin.append_ #[28, 28] ty #[.slice (some ⟨b, p.length, none⟩) i c, .slice (some A) (m - i) (c - (i + 1))]).run Try.prog w.drew = .ok (.slice (some ⟨b, p.length, none⟩) m c) (w.drew.setRow b ((p ++ fX) ++ fY ++ (e ++ r)).toArray) := fun A hA ty => by
    have := run_roomP (P := Try.prog) (w := w.drew) elem_tm hh (p ++ fX) d (e ++ r) fY hc1 hd1 hone p.length i c (m - i) (m - i) (c - (i + 1)) A hpl (by omega) hfy rfl (hsrc A hA) ty
    rw [show i + (m - i) = m by omega] at this
    exact this
  obtain ⟨w1, hw1⟩ : ∃ w1, w1 = w.drew.setRow b ((p ++ fX) ++ fY ++ (e ++ r)).toArray := ⟨_, rfl⟩
  have hh1 : w1.heap[b]? = some (.cells ((p ++ fX) ++ fY ++ (e ++ r)).toArray 33 (0, 0)) := by rw [hw1]; exact setRow_heap w.drew b cur _ _ _ hh
  have hx1 : Ext (fun q => some b = some q) w w1 := by rw [hw1]; exact ((Ext.refl _ w).drew).trans ((ext_setRow w.drew b _).mono (fun q _ e => by rw [e])) (fun _ _ h => h)
  rw [← hw1] at hrun
  have hpl2 : (p ++ fX ++ fY).length = p.length + m * 2 := by rw [List.length_append, hpl, hfy]; omega
  have hclr : ∀ ty c', (Builtin.clear_ #[28] ty #[.slice (some ⟨b, p.length + m * 2, none⟩) 1 c']).run Try.prog w1 = .ok (.tuple #[]) (w1.setRow b ((p ++ fX ++ fY) ++ timerE (0, 0) ++ r).toArray) := fun ty c' => by
    have := run_clearP (P := Try.prog) (w := w1) (S := 28) (k := 2) Try.underlying28 zeroTm rfl (by rw [zcells]; exact timerE_one (0, 0)) hh1 (p ++ fX ++ fY) e r (by simp) he1 c' ty
    rw [hpl2, zcells] at this
    exact this
  have hend := Lib.hid (hres (w1.setRow b ((p ++ fX ++ fY) ++ timerE (0, 0) ++ r).toArray) _ (setRow_heap w1 b _ _ _ _ hh1) (by simp))
  have hx2 : Ext (fun q => some b = some q) w (w1.setRow b ((p ++ fX ++ fY) ++ timerE (0, 0) ++ r).toArray) := hx1.trans ((ext_setRow w1 b _).mono (fun q _ e => by rw [e])) (fun _ _ h => h)
  obtain ⟨w2, hw2⟩ : ∃ w2, w2 = w1.setRow b ((p ++ fX ++ fY) ++ timerE (0, 0) ++ r).toArray := ⟨_, rfl⟩
  rw [← hw2] at hclr hx2
  have hend1 := hend.out
  rw [← hw2] at hend1
  have hend' := Lib.hid hend1
  clear hend hend1 hw2
  have hrun' := Lib.hid hrun
  have hclr' := Lib.hid hclr
  rw [hmn] at hL hi ⊢
  unfold maxLen at hm
  have k1 : (i : Int) ≤ (m : Int) := by omega
  have k2 : (m : Int) + 1 ≤ (c : Int) := by omega
  have k3 : ¬ c = m := by omega
  have k5 : (i : Int) ≤ (c : Int) := by omega
  have k6 : (0 : Int) ≤ (i : Int) + 1 := by omega
  have k7 : ((i : Int) + 1).toNat = i + 1 := by omega
  have k9 : (i : Int) + 1 ≤ (m : Int) + 1 := by omega
  have k10 : (i : Int) + 1 ≤ (c : Int) := by omega
  have k4 : ((i : Int) == (i : Int) + 1) = false := by simp; omega
  have hmc : i ≤ m := by omega
  clear hres hrun hclr hx1 hh1 hw1 hpl hpl2 hsrc hone hc1 hd1 he1 hfX hfY hfx hfy hc hr hl hmn h hh
  by_cases hci : c = i + 1
  · obtain rfl : m = i := by omega
    subst hci
    have k11 : (m : Int) ≤ (m : Int) + 1 := by omega
    have k12 : (m : Int) + 1 ≤ (m : Int) + 1 := by omega
    clear k1 k2 k5 k9 k10
    have hA0 := hrun'.out ⟨b, p.length, none⟩ (by rw [if_pos rfl])
    rw [Nat.sub_self, Nat.sub_self] at hA0
    have hA := Lib.hid hA0
    clear hA0
    go_enter Try.func31, Try.ntmps31
    go_wp2_with fail
    go_region_held3 (fun w' => Tr w') (exact tr _) (refine step_appR rfl (.tmp 22) (.tmp 25) 28 28 rfl _ _ rfl rfl (hA.out _) ?_)
    go_wp2_with (refine wpList_clearR rfl (.tmp 31) 28 rfl _ rfl (hclr'.out _ _) ?_)
    go_ret
    exact ⟨_, rfl, hend'.out, hx2⟩
  · have hA := Lib.hid (hrun'.out ⟨b, p.length + (i + 1) * 2, none⟩ (by rw [if_neg hci]))
    go_enter Try.func31, Try.ntmps31
    go_wp2_with fail
    go_region_held3 (fun w' => Tr w') (exact tr _) (refine step_appR rfl (.tmp 22) (.tmp 25) 28 28 rfl _ _ rfl rfl (hA.out _) ?_)
    go_wp2_with (refine wpList_clearR rfl (.tmp 31) 28 rfl _ rfl (hclr'.out _ _) ?_)
    go_ret
    exact ⟨_, rfl, hend'.out, hx2⟩

end Go.Proofs.Ytnobodgjabgikaa
