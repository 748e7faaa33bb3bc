/- The reference's Dag: its rows; Waits, Behind. -/
import Derived.Test.YtolihdcfhonfgaaProg
import Derived.Test.YtolihdcfhonfgaaDagO2
namespace Go.Proofs.Ytolihdcfhonfgaa
open Go.RowKit
set_option linter.unusedSimpArgs false
set_option linter.unusedVariables false

/-- v is a slice that reads as xs; where it is not empty it lies behind b. -/
def IsL (w : World) (b : Nat) (v : Value) (xs : List Int) : Prop := ∃ A c b' o, v = .slice A xs.length c ∧ SlR w 1 intE A c b' o xs ∧ (0 < xs.length → b < b')
theorem IsL.keep {F : Nat → Prop} {w w' : World} {b : Nat} {v : Value} {xs : List Int} (h : IsL w b v xs) (x : Ext F w w') (hn : ∀ q, b < q → q < w.heap.size → ¬ F q) : IsL w' b v xs := by
  obtain ⟨A, c, b', o, h1, h2, h3⟩ := h
  refine ⟨A, c, b', o, h1, h2.keep x (fun hp => hn b' (h3 hp) ?_), h3⟩
  exact World.block_lt_of_cell? w ⟨b', o + 0, none⟩ (h2.intCell 0 hp)

/-- A row as it lies: its ID, its list's slice. -/
structure RowV where
  id : Int
  a : Option Addr
  n : Nat
  c : Nat
/-- A row's two cells. -/
def rowE (r : RowV) : List Value := [.int .i64 r.id, .slice r.a r.n r.c]
theorem rowE_len (r : RowV) : (rowE r).length = 2 := rfl
theorem rowE_one (r : RowV) : ∀ u ∈ rowE r, u.oneCell' = true := by
  intro u hu
  simp only [rowE, List.mem_cons, List.not_mem_nil, or_false] at hu
  rcases hu with rfl | rfl <;> rfl
theorem elem_row : ElemT Try.prog 38 63 2 32 := elemT_of (z := .agg #[.int .i64 0, .slice none 0 0]) Try.underlying38 (by kernel_rfl) rfl (by decide)

/-- An address as append leaves it. -/
def Can (A : Option Addr) (c : Nat) : Prop := (A = none ∧ c = 0) ∨ ∃ b o, A = some ⟨b, o, none⟩
theorem SlO.can {w : World} {α : Type} {E : TypeId} {k : Nat} {enc : α → List Value} {g : Option Nat} {A : Option Addr} {n c : Nat} {xs : List α} (h : SlO w E k enc g (.slice A n c) xs) : Can A c := by
  rcases h.get with h | ⟨b, o, c', h⟩
  · simp only [Value.slice.injEq] at h
    exact .inl ⟨h.1, h.2.2⟩
  · simp only [Value.slice.injEq] at h
    exact .inr ⟨b, o, h.1⟩
/-- Block b is the reference's Dag with these rows. -/
def RefAt (w : World) (b : Nat) (L : List (Int × List Int)) : Prop :=
  ∃ (A : Option Addr) (c b' o : Nat) (rows : List RowV), w.heap[b]? = some (.cells #[.slice A rows.length c] 40 (0, 0)) ∧ SlR w 2 rowE A c b' o rows ∧ ((0 < rows.length → b < b') ∧ Can A c) ∧
    rows.length = L.length ∧ ∀ (i : Nat) (r : RowV) (l : Int × List Int), rows[i]? = some r → L[i]? = some l → r.id = l.1 ∧ IsL w b (.slice r.a r.n r.c) l.2

theorem RefAt.keep {F : Nat → Prop} {w w' : World} {b : Nat} {L : List (Int × List Int)} (h : RefAt w b L) (x : Ext F w w') (hn : ∀ q, b ≤ q → q < w.heap.size → ¬ F q) : RefAt w' b L := by
  obtain ⟨A, c, b', o, rows, h1, h2, h3, h4, h5⟩ := h
  refine ⟨A, c, b', o, rows, x.keep h1 (hn b (Nat.le_refl _) (lt_of_block h1)), h2.keep x (fun hp => hn b' (Nat.le_of_lt (h3.1 hp)) ?_), h3, h4, fun i r l hr hl => ?_⟩
  · obtain ⟨r, hr⟩ : ∃ r, rows[0]? = some r := ⟨_, List.getElem?_eq_getElem hp⟩
    exact World.block_lt_of_cell? w ⟨b', o + 0 * 2 + 0, none⟩ (h2.cell rowE_len 0 r hr 0 _ rfl)
  · obtain ⟨e1, e2⟩ := h5 i r l hr hl
    exact ⟨e1, e2.keep x (fun q hq hs => hn q (Nat.le_of_lt hq) hs)⟩

def refWaits (L : List (Int × List Int)) (id : Int) : List Int := ((L.find? (fun l => l.1 = id)).map (·.2)).getD []
def refBehind (L : List (Int × List Int)) (id : Int) : List Int := (L.filter (fun l => decide (id ∈ l.2))).map (·.1)

/-- The cells of row i. -/
theorem RefAt.at {w : World} {b : Nat} {A : Option Addr} {c b' o : Nat} {rows : List RowV} {L : List (Int × List Int)} (h2 : SlR w 2 rowE A c b' o rows) (h5 : ∀ (i : Nat) (r : RowV) (l : Int × List Int), rows[i]? = some r → L[i]? = some l → r.id = l.1 ∧ IsL w b (.slice r.a r.n r.c) l.2) (h4 : rows.length = L.length) {i : Nat} (hi : i < L.length) :
    ∃ A1 c1 b1 o1, w.cell? ⟨b', o + i * 2, none⟩ = some (.int .i64 L[i].1) ∧ w.cell? ⟨b', o + i * 2 + 1, none⟩ = some (.slice A1 L[i].2.length c1) ∧ SlR w 1 intE A1 c1 b1 o1 L[i].2 ∧ (0 < L[i].2.length → b < b1) := by
  have hir : i < rows.length := by omega
  have hr := List.getElem?_eq_getElem hir
  obtain ⟨e1, A1, c1, b1, o1, e2, e3, e4⟩ := h5 i rows[i] L[i] hr (List.getElem?_eq_getElem hi)
  refine ⟨A1, c1, b1, o1, ?_, ?_, e3, e4⟩
  · rw [← e1]
    exact h2.cell rowE_len i rows[i] hr 0 _ rfl
  · rw [← e2]
    exact h2.cell rowE_len i rows[i] hr 1 _ rfl

set_option maxHeartbeats 1000000 in
theorem refWaits_calls (b : Nat) (L : List (Int × List Int)) (id : Int) (w : World) (h : RefAt w b L) :
    Calls Try.prog 20 #[.pointer (some ⟨b, 0, none⟩), .int .i64 id] w fun e w' => ∃ v, e = .returned v ∧ IsL w' b v (refWaits L id) ∧ w' = w := by
  obtain ⟨A, c, b', o, rows, h1, h2, h3, h4, h5⟩ := h
  have hle := h2.le
  have hmx := h2.max
  unfold maxLen at hmx
  have hc0 : w.cell? ⟨b, 0, none⟩ = some (.slice A L.length c) := by rw [cell_of_row w b 0 _ _ (0, 0) h1, h4]; rfl
  rw [h4] at hle
  go_enter Try.func20, Try.ntmps20
  go_wp2_with fail
  go_loop [5] (fun i => ∃ k : Nat, k ≤ L.length ∧ i = .int .i64 k ∧ Hid ((L.take k).find? (fun l => l.1 = id) = none)) (fun i => L.length - (intOf i).toNat)
  case atStart => exact ⟨0, Nat.zero_le _, rfl, rfl⟩
  case round =>
    obtain ⟨k, hk, rfl, hno⟩ := hrel
    by_cases hlt : k < L.length
    · obtain rfl := h2.addr (by omega)
      obtain ⟨A1, c1, b1, o1, g1, g2, g3, g4⟩ := RefAt.at h2 h5 h4 hlt
      have htk := Lib.hid (List.take_succ_eq_append_getElem hlt)
      have hget := Lib.hid (List.getElem?_eq_getElem hlt)
      have hgl := Lib.hid (List.take_append_drop k L)
      have hdr := Lib.hid (List.drop_eq_getElem_cons hlt)
      clear h5
      generalize L[k] = l at *
      by_cases hid : l.1 = id
      · have t1 : (l.1 == id) = true := by simp [hid]
        have hres : Hid (refWaits L id = l.2) := by
          show _ = _
          unfold refWaits
          rw [← hgl.out, List.find?_append, hno.out, hdr.out]
          simp [List.find?_cons, hid]
        have hid' := Lib.hid hid
        clear hid
        go_wp2_with fail
        go_ret
        exact ⟨_, rfl, by rw [hres.out]; exact ⟨A1, c1, b1, o1, rfl, g3, g4⟩, rfl⟩
      · have t1 : (l.1 == id) = false := by simp [hid]
        go_wp2_with fail
        go_round
        case rel => exact ⟨k + 1, by omega, by go_num, by show _ = _; rw [htk.out, List.find?_append, hno.out]; simp [List.find?_cons, hid]⟩
        case measure => simp [intOf]; omega
    · have hres : Hid (refWaits L id = []) := by
        show _ = _
        unfold refWaits
        have := hno.out
        rw [List.take_of_length_le (by omega)] at this
        rw [this]; rfl
      go_wp2_with fail
      go_ret
      exact ⟨_, rfl, by rw [hres.out]; exact ⟨none, 0, 0, 0, rfl, ⟨by simp, by simp, by simp [maxLen], by intro j u hu; simp at hu⟩, by simp⟩, rfl⟩

theorem refBehind_snoc (l : List (Int × List Int)) (x : Int × List Int) (id : Int) : refBehind (l ++ [x]) id = refBehind l id ++ (if id ∈ x.2 then [x.1] else []) := by
  unfold refBehind
  rw [List.filter_append, List.map_append]
  congr 1
  by_cases h : id ∈ x.2 <;> simp [List.filter_cons, h]
theorem refBehind_len (l : List (Int × List Int)) (id : Int) : (refBehind l id).length ≤ l.length := by
  unfold refBehind
  rw [List.length_map]
  exact List.length_filter_le _ _

set_option maxHeartbeats 1000000 in
theorem refBehind_calls (b : Nat) (L : List (Int × List Int)) (id : Int) (w : World) (h : RefAt w b L) (hL : L.length ≤ 1000000) :
    Calls Try.prog 22 #[.pointer (some ⟨b, 0, none⟩), .int .i64 id] w fun e w' => ∃ v g, e = .returned v ∧ SlO w' 3 1 intE g v (refBehind L id) ∧ (∀ q, g = some q → w.heap.size ≤ q) ∧ Ext NoB w w' := by
  obtain ⟨A, c, b', o, rows, h1, h2, h3, h4, h5⟩ := h
  have hle := h2.le
  have hmx := h2.max
  unfold maxLen at hmx
  have hc0 : w.cell? ⟨b, 0, none⟩ = some (.slice A L.length c) := by rw [cell_of_row w b 0 _ _ (0, 0) h1, h4]; rfl
  rw [h4] at hle
  go_enter Try.func22, Try.ntmps22
  go_wp2_with fail
  go_loopw [5, 6] (fun out i wr => ∃ (k : Nat) (g : Option Nat), k ≤ L.length ∧ i = .int .i64 k ∧ SlO wr 3 1 intE g out (refBehind (L.take k) id) ∧ (∀ q, g = some q → w.heap.size ≤ q) ∧ Ext NoB w wr) (fun _ i _ => L.length - (intOf i).toNat)
  case atStart => exact ⟨0, none, Nat.zero_le _, rfl, SlO.nil _ _ _ _, by simp, Ext.refl _ _⟩
  case round =>
    obtain ⟨k, g, hk, rfl, hO, hg, hext⟩ := hrel
    have hc0' := hext.cell hc0 nb
    have hlen := refBehind_len (L.take k) id
    rw [List.length_take] at hlen
    by_cases hlt : k < L.length
    · obtain rfl := h2.addr (by omega)
      obtain ⟨A1, c1, b1, o1, g1, g2, g3, g4⟩ := RefAt.at (h2.keep hext nb1) (fun i r l hr hl => ⟨(h5 i r l hr hl).1, (h5 i r l hr hl).2.keep hext (fun _ _ _ => nb)⟩) h4 hlt
      have htk := Lib.hid (List.take_succ_eq_append_getElem hlt)
      have hsn := Lib.hid (refBehind_snoc (L.take k) L[k] id)
      generalize L[k] = l at *
      by_cases hid : id ∈ l.2
      · have hb1 : ((refBehind (L.take k) id).length + 1) * 8 ≤ 140737488355328 := by omega
        have hb2 : (refBehind (L.take k) id).length + 1 ≤ maxLen := by unfold maxLen; omega
        go_wp2_with fail
        with_reducible refine (has_calls A1 c1 b1 o1 l.2 id wr g3).mono ?_
        rintro e w3 ⟨rfl, rfl⟩
        have hdid : decide (id ∈ l.2) = true := decide_eq_true hid
        rw [hdid]
        clear hdid
        go_wp2_with (at_builtin; go_loud (refine wpList_appendO (ys := [l.1]) rfl rfl elem_int intE_len intE_one (hO.keep ((Ext.refl NoB _).alloc _) (fun _ _ => nb)) rfl (SlR.one' (alloc_at' _ _ _ (by simp)) rfl) rfl rfl hb1 hb2 (fun v' w5 g' hO' hx5 hg' => ?_)))
        have hsz := hext.size
        have hgn : ∀ q, g' = some q → w.heap.size ≤ q := fun q hq => by
          rcases hg' with rfl | rfl
          · exact hg q hq
          · simp only [Option.some.injEq] at hq
            simp at hq
            omega
        go_roundw
        case rel =>
          refine ⟨k + 1, g', by omega, by go_num, by rw [htk.out, hsn.out, if_pos hid]; exact hO', hgn, ?_⟩
          exact (hext.trans ((Ext.refl NoB _).alloc _) (fun _ _ h => h)).trans hx5 (fun i hi e => absurd (hg i e) (by omega))
        case measure => simp [intOf]; omega
      · go_wp2_with fail
        with_reducible refine (has_calls A1 c1 b1 o1 l.2 id wr g3).mono ?_
        rintro e w3 ⟨rfl, rfl⟩
        have hdid : decide (id ∈ l.2) = false := decide_eq_false hid
        rw [hdid]
        clear hdid
        go_wp2_with fail
        go_roundw
        case rel => exact ⟨k + 1, g, by omega, by go_num, by rw [htk.out, hsn.out, if_neg hid, List.append_nil]; exact hO, hg, hext⟩
        case measure => simp [intOf]; omega
    · rw [List.take_of_length_le (by omega)] at hO
      go_wp2_with fail
      go_ret
      exact ⟨_, g, rfl, hO, hg, hext⟩

end Go.Proofs.Ytolihdcfhonfgaa
