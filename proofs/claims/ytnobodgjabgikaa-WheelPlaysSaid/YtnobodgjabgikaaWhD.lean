/- The wheel: Insert at timers. -/
import Derived.Test.YtnobodgjabgikaaProg
import Derived.Test.YtnobodgjabgikaaWhC
namespace Go.Proofs.Ytnobodgjabgikaa
open Go.RowKit Go.Sort
set_option linter.unusedSimpArgs false
set_option linter.unusedVariables false

def insAt (xs : List Tm) (i : Nat) (t : Tm) : List Tm := xs.take i ++ [t] ++ xs.drop i
theorem insAt_len (xs : List Tm) (i : Nat) (t : Tm) (hi : i ≤ xs.length) : (insAt xs i t).length = xs.length + 1 := by unfold insAt; simp; omega

/-- What holds behind Insert. -/
def InsPost (g : Option Nat) (xs : List Tm) (i : Nat) (t : Tm) (w : World) (e : Ending) (w' : World) : Prop :=
  ∃ v' g', e = .returned v' ∧ SlO w' 33 2 timerE g' v' (insAt xs i t) ∧ Ext (fun q => g = some q) w w' ∧ (g' = g ∨ ∀ q, g' = some q → w.heap.size ≤ q)
theorem ins_mk {g : Option Nat} {xs : List Tm} {i : Nat} {t : Tm} {w w' : World} {e : Ending} (v' : Value) (g' : Option Nat) (he : e = .returned v') (h1 : SlO w' 33 2 timerE g' v' (insAt xs i t)) (h2 : Ext (fun q => g = some q) w w') (h3 : g' = g ∨ ∀ q, g' = some q → w.heap.size ≤ q) : InsPost g xs i t w e w' := ⟨v', g', he, h1, h2, h3⟩

theorem sl_one {w : World} {vb : Nat} {t : Tm} (h : w.heap[vb]? = some (.cells #[.int .u64 t.1, .int .i64 t.2] 33 (0, 0))) : SlR w 2 timerE (some ⟨vb, 0, none⟩) 1 vb 0 [t] := SlR.one' h rfl

set_option maxRecDepth 100000 in
set_option maxHeartbeats 2000000 in
/-- At the end. -/
theorem insert_end (g : Option Nat) (v : Value) (xs : List Tm) (t : Tm) (vb : Nat) (w : World) (h : SlO w 33 2 timerE g v xs) (ht : w.heap[vb]? = some (.cells #[.int .u64 t.1, .int .i64 t.2] 33 (0, 0))) (hL : xs.length ≤ 1000000) :
    Calls Try.prog 37 #[v, .int .i64 xs.length, .slice (some ⟨vb, 0, none⟩) 1 1] w (InsPost g xs xs.length t w) := by
  have hb1 : (xs.length + [t].length) * 16 ≤ 140737488355328 := by simp; omega
  have hb2 : xs.length + [t].length ≤ maxLen := by unfold maxLen; simp; omega
  have hb1' := Lib.hid hb1
  have hb2' := Lib.hid hb2
  have he : Hid (insAt xs xs.length t = xs ++ [t]) := by show _ = _; unfold insAt; simp
  have ht' := Lib.hid ht
  clear hb1 hb2 ht
  rcases h.get with rfl | ⟨b, o, c, rfl⟩
  · have hnil : xs = [] := by
      rcases h with ⟨_, hx, _⟩ | ⟨_, _, _, _, _, hv, _⟩
      · exact hx
      · cases hv
    subst hnil
    go_enter Try.func37, Try.ntmps37
    go_wp2_with (at_builtin; go_loud (refine wpList_appendO (ys := [t]) rfl rfl elem_tm timerE_len timerE_one h rfl (sl_one ht'.out) rfl rfl hb1'.out hb2'.out (fun v' w5 g' hO' hx5 hg' => ?_)))
    go_ret
    exact ins_mk _ g' rfl hO' hx5 (hg'.imp id (fun e q hq => by rw [e] at hq; simp at hq; omega))
  · obtain ⟨A', c', b', o', e1, hr, _⟩ := h.read
    have hle := hr.le
    have hmx := hr.max
    unfold maxLen at hmx
    simp only [Value.slice.injEq, true_and] at e1
    obtain ⟨_, hcc⟩ := e1
    have hcc' := Lib.hid hcc
    have hle1 : xs.length ≤ c := by omega
    have hmx1 : c ≤ 2 ^ 63 - 1 := by omega
    have k1 : (xs.length : Int) ≤ (c : Int) := by omega
    clear hcc hle hmx hr
    by_cases hc : c = xs.length
    · subst hc
      go_enter Try.func37, Try.ntmps37
      go_wp2_with (at_builtin; go_loud (refine wpList_appendO (ys := [t]) rfl rfl elem_tm timerE_len timerE_one h rfl (sl_one ht'.out) rfl rfl hb1'.out hb2'.out (fun v' w5 g' hO' hx5 hg' => ?_)))
      go_ret
      exact ins_mk _ g' rfl (by rw [he.out]; exact hO') hx5 (hg'.imp id (fun e q hq => by rw [e] at hq; simp at hq; omega))
    · go_enter Try.func37, Try.ntmps37
      go_wp2_with (at_builtin; go_loud (refine wpList_appendO (ys := [t]) rfl rfl elem_tm timerE_len timerE_one h rfl (sl_one ht'.out) rfl rfl hb1'.out hb2'.out (fun v' w5 g' hO' hx5 hg' => ?_)))
      go_ret
      exact ins_mk _ g' rfl (by rw [he.out]; exact hO') hx5 (hg'.imp id (fun e q hq => by rw [e] at hq; simp at hq; omega))

theorem shape_row {w : World} {b : Nat} {cur : Array Value} {E : TypeId} {fr : Nat × Nat} (h : w.heap[b]? = some (.cells cur E fr)) : w.shape? b = some (E, cur.size) := by
  simp [World.shape?, h]

theorem split_len (l : List Value) (n : Nat) (h : n ≤ l.length) : ∃ a b, l = a ++ b ∧ a.length = n := ⟨l.take n, l.drop n, (List.take_append_drop n l).symm, by rw [List.length_take]; omega⟩

set_option maxRecDepth 100000 in
set_option maxHeartbeats 4000000 in
/-- In the midst, where there is room. -/
theorem insert_room (g : Option Nat) (b c : Nat) (cur : Array Value) (p r : List Value) (xs : List Tm) (i : Nat) (t : Tm) (vb : Nat) (w : World) (hg : g = some b) (hh : w.heap[b]? = some (.cells cur 33 (0, 0))) (hm : c ≤ maxLen) (hc : cur.toList = p ++ xs.flatMap timerE ++ r) (hr : (c - xs.length) * 2 ≤ r.length)
    (ht : w.heap[vb]? = some (.cells #[.int .u64 t.1, .int .i64 t.2] 33 (0, 0))) (hvb : vb ≠ b) (hi : i < xs.length) (hroom : xs.length + 1 ≤ c) (hL : xs.length ≤ 1000000) :
    Calls Try.prog 37 #[.slice (some ⟨b, p.length, none⟩) xs.length c, .int .i64 i, .slice (some ⟨vb, 0, none⟩) 1 1] w (InsPost g xs i t w) := by
  have hfl : xs.flatMap timerE = (xs.take i).flatMap timerE ++ (xs.drop i).flatMap timerE := by rw [← List.flatMap_append, List.take_append_drop]
  have hfx : ((xs.take i).flatMap timerE).length = i * 2 := by rw [flat_len timerE_len, List.length_take, Nat.min_eq_left (by omega)]
  have hfy : ((xs.drop i).flatMap timerE).length = (xs.length - i) * 2 := by rw [flat_len timerE_len, List.length_drop]
  have hone : ∀ u ∈ (xs.drop i).flatMap timerE, u.oneCell' = true := fun u hu => by obtain ⟨x, _, hx⟩ := List.mem_flatMap.1 hu; exact timerE_one x u hx
  have hins : (insAt xs i t).flatMap timerE = (xs.take i).flatMap timerE ++ timerE t ++ (xs.drop i).flatMap timerE := by unfold insAt; simp [List.flatMap_append, List.flatMap_cons]
  have hlen := insAt_len xs i t (by omega)
  rw [hfl] at hc
  generalize hfX : (xs.take i).flatMap timerE = fX at *
  generalize hfY : (xs.drop i).flatMap timerE = fY at *
  obtain ⟨n, hn⟩ : ∃ n, xs.length = n := ⟨_, rfl⟩
  rw [hn] at hfy hroom hL hi hr hlen ⊢
  have hr2 : 2 ≤ r.length := by
    have h1 : 1 ≤ c - n := by omega
    have h2 := Nat.mul_le_mul_right 2 h1
    omega
  obtain ⟨r1, r2, rfl, hr1⟩ := split_len r 2 hr2
  clear hr2
  obtain ⟨X, D, hXD, hX⟩ := split_len (fY ++ r1) 2 (by rw [List.length_append]; omega)
  have hD : D.length = fY.length := by
    have := congrArg List.length hXD
    rw [List.length_append, List.length_append] at this
    omega
  have hc1 : cur.toList = (p ++ fX ++ X) ++ D ++ r2 := by
    rw [hc]
    simp only [List.append_assoc]
    rw [← List.append_assoc fY r1 r2, hXD]
    simp
  have hpl : (p ++ fX).length = p.length + i * 2 := by rw [List.length_append, hfx]
  have hpl2 : (p ++ fX ++ X).length = p.length + (i + 1) * 2 := by rw [List.length_append, hpl, hX]; omega
  have hsrc : ∀ j u, fY[j]? = some u → w.drew.cell? ((⟨b, p.length + i * 2, none⟩ : Addr).add j) = some u := fun j u hu => by
    rw [Addr.add_lit]
    have := read_part (w := w) (p := p ++ fX) (vs := fY) (r := r1 ++ r2) hh (by rw [hc]; simp) j u hu
    rw [hpl] at this
    exact this
  have hcp1 : ∀ ty dc sc, (Builtin.copy_ #[28, 28] ty #[.slice (some ⟨b, p.length + (i + 1) * 2, none⟩) (n - i) dc, .slice (some ⟨b, p.length + i * 2, none⟩) (n + 1 - i) sc]).run Try.prog w.drew = .ok (goInt ((n - i : Nat) : Int)) (w.drew.setRow b ((p ++ fX ++ X) ++ fY ++ r2).toArray) := fun ty dc sc => by
    have := run_copyP (P := Try.prog) (w := w.drew) elem_tm hh (p ++ fX ++ X) D r2 fY hc1 hD hone (n - i) (n - i) dc (n + 1 - i) sc ⟨b, p.length + i * 2, none⟩ hfy (by show min (n + 1 - i) (n - i) = n - i; omega) hsrc ty
    rw [hpl2] at this
    exact this
  obtain ⟨w1, hw1⟩ : ∃ w1, w1 = w.drew.setRow b ((p ++ fX ++ X) ++ fY ++ r2).toArray := ⟨_, rfl⟩
  have hh1 : w1.heap[b]? = some (.cells ((p ++ fX ++ X) ++ fY ++ r2).toArray 33 (0, 0)) := by rw [hw1]; exact setRow_heap w.drew b cur _ _ _ hh
  have hx1 : Ext (fun q => q = b) w w1 := by rw [hw1]; exact ((Ext.refl _ w).drew).trans (ext_setRow w.drew b _) (fun _ _ h => h)
  have ht1 := hx1.keep ht hvb
  rw [← hw1] at hcp1
  have hsrc2 : ∀ j u, (timerE t)[j]? = some u → w1.cell? ((⟨vb, 0, none⟩ : Addr).add j) = some u := fun j u hu => by
    rw [Addr.add_lit]
    have := (sl_one ht1).row j u (by simpa using hu)
    exact this
  have hcp2 : ∀ ty dc, (Builtin.copy_ #[28, 28] ty #[.slice (some ⟨b, p.length + i * 2, none⟩) (n + 1 - i) dc, .slice (some ⟨vb, 0, none⟩) 1 1]).run Try.prog w1 = .ok (goInt 1) (w1.setRow b ((p ++ fX) ++ timerE t ++ (fY ++ r2)).toArray) := fun ty dc => by
    have := run_copyP (P := Try.prog) (w := w1) elem_tm hh1 (p ++ fX) X (fY ++ r2) (timerE t) (by simp) (by rw [hX]; rfl) (timerE_one t) 1 (n + 1 - i) dc 1 1 ⟨vb, 0, none⟩ rfl (by show min 1 (n + 1 - i) = 1; omega) hsrc2 ty
    rw [hpl] at this
    exact this
  obtain ⟨w2, hw2⟩ : ∃ w2, w2 = w1.setRow b ((p ++ fX) ++ timerE t ++ (fY ++ r2)).toArray := ⟨_, rfl⟩
  have hh2 : w2.heap[b]? = some (.cells ((p ++ fX) ++ timerE t ++ (fY ++ r2)).toArray 33 (0, 0)) := by rw [hw2]; exact setRow_heap w1 b _ _ _ _ hh1
  have hx2 : Ext (fun q => g = some q) w w2 := by rw [hw2]; exact (hx1.trans (ext_setRow w1 b _) (fun _ _ h => h)).mono (fun q _ e => by rw [hg, e])
  rw [← hw2] at hcp2
  have hend : SlO w2 33 2 timerE g (.slice (some ⟨b, p.length, none⟩) (n + 1) c) (insAt xs i t) := by
    have := SlO.of_parts (w := w2) (k := 2) (enc := timerE) (E := 33) (xs := insAt xs i t) (p := p) (r := r2) (c := c) timerE_len hh2 (by omega) hm (by rw [hins]; simp) (by rw [hlen]; rw [List.length_append] at hr; rw [Nat.sub_mul] at *; omega)
    rw [hlen] at this
    rw [hg]
    exact this
  have hov : ∀ lb cb, (callFunc 44 #[.slice (some ⟨vb, 0, none⟩) 1 1, .slice (some ⟨b, p.length + (i + 1) * 2, none⟩) lb cb]).run Try.prog w = .ok (.value (.bool false)) w := fun lb cb => by
    rw [run_callFunc_extern Try.func44 (by kernel_rfl) (by kernel_rfl) (by kernel_rfl) (e := Extern.SlicesOverlaps.overlaps #[28, 28] #[4]) (by kernel_rfl),
      Lib.run_overlaps_apart w 28 4 33 Try.underlying28 2 (fun w => by kernel_rfl) ⟨vb, 0, none⟩ ⟨b, p.length + (i + 1) * 2, none⟩ 1 1 lb cb hvb _ _ _ _ (shape_row ht) (shape_row hh) (by
        have := congrArg List.length hc1
        rw [Array.length_toList] at this
        simp only [List.length_append] at this
        omega) (by simp [World.frozen?, ht]) (by simp [World.frozen?, ht])]
    rfl
  have hend' := Lib.hid hend
  have hcp1' := Lib.hid hcp1
  have hcp2' := Lib.hid hcp2
  unfold maxLen at hm
  have k1 : (i : Int) ≤ (n : Int) := by omega
  have k2 : (n : Int) + 1 ≤ (c : Int) := by omega
  have k3 : ¬ c = i := by omega
  have k4 : ¬ c = i + 1 := by omega
  have k5 : (i : Int) ≤ (n : Int) + 1 := by omega
  have k6 : (0 : Int) ≤ (i : Int) + 1 := by omega
  have k7 : ((i : Int) + 1).toNat = i + 1 := by omega
  have k8 : ((n : Int) + 1).toNat = n + 1 := by omega
  have k9 : IntKind.i64.wrap ((i : Int) + 1) = (i : Int) + 1 := IntWalk.i64_in _ (by omega)
  have k10 : ¬ ((i : Int) = (n : Int)) := by omega
  have k11 : decide ((c : Int) < (n : Int) + 1) = false := by simp; omega
  have k12 : (0 : Int) ≤ (n : Int) + 1 := by omega
  have k13 : (i : Int) ≤ (c : Int) := by omega
  clear hend hcp1 hcp2 hh2 hw2 hh1 hw1 hx1 ht1 hsrc hsrc2 hpl hpl2 hc1 hD hX hXD hr1 hfX hfY hfx hfy hfl hone hins hlen hc hr hn hh ht
  go_enter Try.func37, Try.ntmps37
  go_wp2_with (simp only [hov])
  go_region_held3 (fun w' => Tr w') (exact tr _) (refine step_copyR rfl (.tmp 73) (.tmp 76) 28 28 rfl (.slice (some ⟨b, p.length + (i + 1) * 2, none⟩) (n - i) (c - (i + 1))) (.slice (some ⟨b, p.length + i * 2, none⟩) (n + 1 - i) (c - i)) rfl rfl (hcp1'.out _ _ _) ?_)
  go_wp2_with (refine wpList_copyR rfl (.tmp 80) (.tmp 81) 28 28 rfl (.slice (some ⟨b, p.length + i * 2, none⟩) (n + 1 - i) (c - i)) (.slice (some ⟨vb, 0, none⟩) 1 1) rfl rfl (hcp2'.out _ _) ?_)
  go_ret
  exact ins_mk _ g rfl hend'.out hx2 (.inl rfl)

theorem tm_info : (Try.prog.info? 33).map (fun i => (i.zero, i.size, i.bytes)) = some (some (.agg #[.int .u64 0, .int .i64 0]), 2, 16) := by kernel_rfl

set_option maxRecDepth 100000 in
set_option maxHeartbeats 4000000 in
/-- In the midst, where there is no room. -/
theorem insert_grow (g : Option Nat) (b : Nat) (cur : Array Value) (p r : List Value) (xs : List Tm) (i : Nat) (t : Tm) (vb : Nat) (w : World) (hh : w.heap[b]? = some (.cells cur 33 (0, 0))) (hc : cur.toList = p ++ xs.flatMap timerE ++ r)
    (ht : w.heap[vb]? = some (.cells #[.int .u64 t.1, .int .i64 t.2] 33 (0, 0))) (hi : i < xs.length) (hL : xs.length ≤ 1000000) :
    Calls Try.prog 37 #[.slice (some ⟨b, p.length, none⟩) xs.length xs.length, .int .i64 i, .slice (some ⟨vb, 0, none⟩) 1 1] w (InsPost g xs i t w) := by
  have hfl : xs.flatMap timerE = (xs.take i).flatMap timerE ++ (xs.drop i).flatMap timerE := by rw [← List.flatMap_append, List.take_append_drop]
  have hfx : ((xs.take i).flatMap timerE).length = i * 2 := by rw [flat_len timerE_len, List.length_take, Nat.min_eq_left (by omega)]
  have hfy : ((xs.drop i).flatMap timerE).length = (xs.length - i) * 2 := by rw [flat_len timerE_len, List.length_drop]
  have hone : ∀ u ∈ (xs.drop i).flatMap timerE, u.oneCell' = true := fun u hu => by obtain ⟨x, _, hx⟩ := List.mem_flatMap.1 hu; exact timerE_one x u hx
  have hins : (insAt xs i t).flatMap timerE = (xs.take i).flatMap timerE ++ timerE t ++ (xs.drop i).flatMap timerE := by unfold insAt; simp [List.flatMap_append, List.flatMap_cons]
  have hlen := insAt_len xs i t (by omega)
  rw [hfl] at hc
  generalize hfX : (xs.take i).flatMap timerE = fX at *
  generalize hfY : (xs.drop i).flatMap timerE = fY at *
  obtain ⟨n, hn⟩ : ∃ n, xs.length = n := ⟨_, rfl⟩
  rw [hn] at hfy hL hi hlen ⊢
  obtain ⟨i0, hi0, hz0, hs0, hb0⟩ := info_parts tm_info
  have hold : (Builtin.firstCells i0.size i (.slice (some ⟨b, p.length, none⟩) i n)).run Try.prog w.drew = .ok fX.toArray w.drew := run_firstCells_some w.drew i0.size i _ _ _ fX (by rw [hs0]; exact hfx) (fun j u hu => by
    rw [Addr.add_lit]
    exact read_part (w := w) (p := p) (vs := fX) (r := fY ++ r) hh (by rw [hc]; simp) j u hu)
  have hap0 := fun ty => Lib.run_append_grow_zeros w 28 3 ty 33 i0 _ .i64 .i64 Try.underlying28 Try.underlying3 hi0 hz0 (some ⟨b, p.length, none⟩) i n fX hold (n + 1 - i) (by omega) (by omega) (by omega) (by omega) (by rw [hb0]; omega) (by rw [hb0]; exact growslice_fits (by omega) (by omega))
  rw [show i + (n + 1 - i) = n + 1 by omega] at hap0
  have hge := grownCap_ge w (n + 1) n 33
  have hCm := grownCap_le_maxLen w (n + 1) n 33 (by unfold maxLen; omega)
  generalize grownCap w (n + 1) n 33 = C at *
  have hz2 : ∀ k, (Builtin.zeroCells (Value.agg #[.int .u64 0, .int .i64 0]).cells k).size = k * 2 := fun k => size_zeroCells _ k
  generalize hZ : Builtin.zeroCells (Value.agg #[.int .u64 0, .int .i64 0]).cells (n + 1 - i) = Z at *
  generalize hR : Builtin.zeroCells (Value.agg #[.int .u64 0, .int .i64 0]).cells (C - (n + 1)) = R at *
  have hZs : Z.toList.length = (n + 1 - i) * 2 := by rw [Array.length_toList, ← hZ, hz2]
  have hRs : R.toList.length = (C - (n + 1)) * 2 := by rw [Array.length_toList, ← hR, hz2]
  obtain ⟨Z1, Z2, hZZ, hZ1⟩ := split_len Z.toList 2 (by rw [hZs]; omega)
  have hZ2 : Z2.length = fY.length := by
    have := congrArg List.length hZZ
    rw [List.length_append] at this
    omega
  obtain ⟨w1, hw1⟩ : ∃ w1, w1 = w.drew.alloc (.cells (fX.toArray ++ Z ++ R) 33) := ⟨_, rfl⟩
  rw [← hw1] at hap0
  have hap : ∀ ty, (Builtin.append_ #[28, 3] ty #[.slice (some ⟨b, p.length, none⟩) i n, .int .i64 ((n : Int) + 1 - i)]).run Try.prog w = .ok (.slice (some ⟨w.heap.size, 0, none⟩) (n + 1) C) w1 := fun ty => by
    have := hap0 ty
    rw [show ((n + 1 - i : Nat) : Int) = (n : Int) + 1 - i by omega] at this
    exact this
  have hh1 : w1.heap[w.heap.size]? = some (.cells (fX.toArray ++ Z ++ R) 33 (0, 0)) := by rw [hw1]; exact alloc_at w.drew _
  have hx1 : Ext NoB w w1 := by rw [hw1]; exact (Ext.refl NoB w).drew.alloc _
  have hbw := lt_of_block hh
  have hvw := lt_of_block ht
  have ht1 := hx1.keep ht nb
  have hc1 : (fX.toArray ++ Z ++ R).toList = fX ++ Z1 ++ (Z2 ++ R.toList) := by
    simp only [Array.toList_append, hZZ]
    simp
  have hsrc1 : ∀ j u, (timerE t)[j]? = some u → w1.cell? ((⟨vb, 0, none⟩ : Addr).add j) = some u := fun j u hu => by
    rw [Addr.add_lit]
    exact (sl_one ht1).row j u (by simpa using hu)
  have hcp1 : ∀ ty dc, (Builtin.copy_ #[28, 28] ty #[.slice (some ⟨w.heap.size, i * 2, none⟩) (n + 1 - i) dc, .slice (some ⟨vb, 0, none⟩) 1 1]).run Try.prog w1 = .ok (goInt 1) (w1.setRow w.heap.size (fX ++ timerE t ++ (Z2 ++ R.toList)).toArray) := fun ty dc => by
    have := run_copyP (P := Try.prog) (w := w1) elem_tm hh1 fX Z1 (Z2 ++ R.toList) (timerE t) hc1 (by rw [hZ1]; rfl) (timerE_one t) 1 (n + 1 - i) dc 1 1 ⟨vb, 0, none⟩ rfl (by show min 1 (n + 1 - i) = 1; omega) hsrc1 ty
    rw [hfx] at this
    exact this
  obtain ⟨w2, hw2⟩ : ∃ w2, w2 = w1.setRow w.heap.size (fX ++ timerE t ++ (Z2 ++ R.toList)).toArray := ⟨_, rfl⟩
  rw [← hw2] at hcp1
  have hh2 : w2.heap[w.heap.size]? = some (.cells (fX ++ timerE t ++ (Z2 ++ R.toList)).toArray 33 (0, 0)) := by rw [hw2]; exact setRow_heap w1 _ _ _ _ _ hh1
  have hx2 : Ext NoB w w2 := hx1.trans (by rw [hw2]; exact ext_setRow w1 w.heap.size _) (fun q hq e => by omega)
  have hsrc2 : ∀ j u, fY[j]? = some u → w2.drew.cell? ((⟨b, p.length + i * 2, none⟩ : Addr).add j) = some u := fun j u hu => by
    rw [Addr.add_lit]
    have := read_part (w := w) (p := p ++ fX) (vs := fY) (r := r) hh (by rw [hc]; simp) j u hu
    rw [List.length_append, hfx] at this
    exact hx2.cell this nb
  have hpl : (fX ++ timerE t).length = (i + 1) * 2 := by rw [List.length_append, hfx, timerE_len]; omega
  have hcp2 : ∀ ty dc sc, (Builtin.copy_ #[28, 28] ty #[.slice (some ⟨w.heap.size, (i + 1) * 2, none⟩) (n - i) dc, .slice (some ⟨b, p.length + i * 2, none⟩) (n - i) sc]).run Try.prog w2.drew = .ok (goInt ((n - i : Nat) : Int)) (w2.drew.setRow w.heap.size ((fX ++ timerE t) ++ fY ++ R.toList).toArray) := fun ty dc sc => by
    have := run_copyP (P := Try.prog) (w := w2.drew) elem_tm hh2 (fX ++ timerE t) Z2 R.toList fY (by simp) hZ2 hone (n - i) (n - i) dc (n - i) sc ⟨b, p.length + i * 2, none⟩ hfy (by show min (n - i) (n - i) = n - i; omega) hsrc2 ty
    rw [hpl] at this
    exact this
  obtain ⟨w3, hw3⟩ : ∃ w3, w3 = w2.drew.setRow w.heap.size ((fX ++ timerE t) ++ fY ++ R.toList).toArray := ⟨_, rfl⟩
  rw [← hw3] at hcp2
  have hh3 : w3.heap[w.heap.size]? = some (.cells ((fX ++ timerE t) ++ fY ++ R.toList).toArray 33 (0, 0)) := by rw [hw3]; exact setRow_heap w2.drew _ _ _ _ _ hh2
  have hx3 : Ext (fun q => g = some q) w w3 := (hx2.drew.trans (by rw [hw3]; exact ext_setRow w2.drew w.heap.size _) (fun q hq e => by omega)).mono (fun _ _ e => e.elim)
  have hend : SlO w3 33 2 timerE (some w.heap.size) (.slice (some ⟨w.heap.size, 0, none⟩) (n + 1) C) (insAt xs i t) := by
    have := SlO.of_parts (w := w3) (k := 2) (enc := timerE) (E := 33) (xs := insAt xs i t) (p := []) (r := R.toList) (c := C) timerE_len hh3 (by omega) hCm (by rw [hins]; simp) (by rw [hlen, hRs]; omega)
    rw [hlen] at this
    exact this
  have hend' := Lib.hid hend
  have hap' := Lib.hid hap
  have hcp1' := Lib.hid hcp1
  have hcp2' := Lib.hid hcp2
  have hx3' := Lib.hid hx3
  unfold maxLen at hCm
  have k1 : (i : Int) ≤ (n : Int) := by omega
  have k2 : ¬ n = i := by omega
  have k3 : ¬ C = i := by omega
  have k4 : ¬ C = i + 1 := by omega
  have k5 : (i : Int) ≤ (n : Int) + 1 := by omega
  have k6 : (0 : Int) ≤ (i : Int) + 1 := by omega
  have k7 : ((i : Int) + 1).toNat = i + 1 := by omega
  have k9 : IntKind.i64.wrap ((i : Int) + 1) = (i : Int) + 1 := IntWalk.i64_in _ (by omega)
  have k10 : ¬ ((i : Int) = (n : Int)) := by omega
  have k11 : decide ((n : Int) < (n : Int) + 1) = true := by simp; omega
  have k13 : (i : Int) ≤ (C : Int) := by omega
  have k14 : (i : Int) + 1 ≤ (n : Int) + 1 := by omega
  have k15 : (n : Int) + 1 ≤ (C : Int) := by omega
  clear hend hap hap0 hcp1 hcp2 hx3 hh3 hw3 hh2 hw2 hh1 hw1 hx1 hx2 ht1 hsrc1 hsrc2 hpl hc1 hZ2 hZ1 hZZ hZs hRs hR hZ hz2 hold hfX hfY hfx hfy hfl hone hins hlen hc hn hh ht hbw hvw hi0 hz0 hs0 hb0
  go_enter Try.func37, Try.ntmps37
  go_wp2_with (first
    | (refine wpList_appR rfl (.tmp 34) (.tmp 39) 28 3 rfl (.slice (some ⟨b, p.length, none⟩) i n) (.int .i64 ((n : Int) + 1 - i)) rfl rfl (hap'.out _) ?_)
    | (refine wpList_copyR rfl (.tmp 43) (.tmp 44) 28 28 rfl (.slice (some ⟨w.heap.size, i * 2, none⟩) (n + 1 - i) (C - i)) (.slice (some ⟨vb, 0, none⟩) 1 1) rfl rfl (hcp1'.out _ _) ?_))
  go_region_held3 (fun w' => Tr w') (exact tr _) (refine step_copyR rfl (.tmp 50) (.tmp 53) 28 28 rfl (.slice (some ⟨w.heap.size, (i + 1) * 2, none⟩) (n - i) (C - (i + 1))) (.slice (some ⟨b, p.length + i * 2, none⟩) (n - i) (n - i)) rfl rfl (hcp2'.out _ _ _) ?_)
  go_wp2_with fail
  go_ret
  exact ins_mk _ (some w.heap.size) rfl hend'.out hx3'.out (.inr (fun q hq => by simp at hq; omega))

/-- Insert of one timer. -/
theorem insert_calls (g : Option Nat) (v : Value) (xs : List Tm) (i : Nat) (t : Tm) (vb : Nat) (w : World) (h : SlO w 33 2 timerE g v xs) (ht : w.heap[vb]? = some (.cells #[.int .u64 t.1, .int .i64 t.2] 33 (0, 0))) (hvb : g ≠ some vb) (hi : i ≤ xs.length) (hL : xs.length ≤ 1000000) :
    Calls Try.prog 37 #[v, .int .i64 i, .slice (some ⟨vb, 0, none⟩) 1 1] w (InsPost g xs i t w) := by
  by_cases he : i = xs.length
  · subst he
    exact insert_end g v xs t vb w h ht hL
  · obtain ⟨b, c, cur, p, r, rfl, rfl, hh, hl, hm, hc, hr⟩ := h.parts timerE_len (fun e => by
      rcases h with ⟨_, hx, _⟩ | ⟨_, _, _, _, _, hv, _⟩
      · rw [hx] at hi he; simp at hi; exact he (by rw [hi]; rfl)
      · rw [hv] at e; cases e)
    by_cases hroom : xs.length + 1 ≤ c
    · exact insert_room _ b c cur p r xs i t vb w rfl hh hm hc hr ht (fun e => hvb (by rw [e])) (by omega) hroom hL
    · obtain rfl : c = xs.length := by omega
      exact insert_grow _ b cur p r xs i t vb w hh hc ht (by omega) hL

end Go.Proofs.Ytnobodgjabgikaa
