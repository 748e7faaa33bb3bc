/- The reference's Add: the walk. -/
import Derived.Test.YtolihdcfhonfgaaProg
import Derived.Test.YtolihdcfhonfgaaDagW3
import Derived.Test.YtolihdcfhonfgaaDagV6
import Derived.Test.YtolihdcfhonfgaaU
namespace Go.Proofs.Ytolihdcfhonfgaa
open Go.RowKit
set_option linter.unusedSimpArgs false
set_option linter.unusedVariables false

theorem SlR.dropK {α : Type} {k : Nat} {xs : List α} {w : World} {enc : α → List Value} {A A' : Option Addr} {c b o n : Nat} (h : SlR w k enc A c b o xs) (hk : ∀ x, (enc x).length = k) (hn : n ≤ xs.length) (hA : n < xs.length → A' = some ⟨b, o + n * k, none⟩) : SlR w k enc A' (c - n) b (o + n * k) (xs.drop n) := by
  have hle := h.le
  have hmx := h.max
  refine ⟨fun hp => hA (by rw [List.length_drop] at hp; omega), by rw [List.length_drop]; omega, by omega, fun j u hu => ?_⟩
  have e : xs.flatMap enc = (xs.take n).flatMap enc ++ (xs.drop n).flatMap enc := by rw [← List.flatMap_append, List.take_append_drop]
  have hl : ((xs.take n).flatMap enc).length = n * k := by rw [flat_len hk, List.length_take, Nat.min_eq_left hn]
  rw [show o + n * k + j = o + (n * k + j) by omega]
  refine h.row (n * k + j) u ?_
  rw [e, List.getElem?_append_right (by omega), hl, show n * k + j - n * k = j by omega]
  exact hu

theorem pair_append {Q : RowV → Int × List Int → Prop} {rows rows' : List RowV} {L L' : List (Int × List Int)} (hl : rows.length = L.length) (h : ∀ (i : Nat) (r : RowV) (l : Int × List Int), rows[i]? = some r → L[i]? = some l → Q r l) (h' : ∀ (i : Nat) (r : RowV) (l : Int × List Int), rows'[i]? = some r → L'[i]? = some l → Q r l) :
    ∀ (i : Nat) (r : RowV) (l : Int × List Int), (rows ++ rows')[i]? = some r → (L ++ L')[i]? = some l → Q r l := by
  intro i r l hr hL
  by_cases hi : i < rows.length
  · rw [List.getElem?_append_left hi] at hr
    rw [List.getElem?_append_left (by omega)] at hL
    exact h i r l hr hL
  · rw [List.getElem?_append_right (by omega)] at hr
    rw [List.getElem?_append_right (by omega), ← hl] at hL
    exact h' _ r l hr hL

theorem pair_ins {Q : RowV → Int × List Int → Prop} {rows : List RowV} {L : List (Int × List Int)} (hl : rows.length = L.length) (h : ∀ (i : Nat) (r : RowV) (l : Int × List Int), rows[i]? = some r → L[i]? = some l → Q r l) (t : Nat) {r0 : RowV} {l0 : Int × List Int} (h0 : Q r0 l0) :
    ([] ++ rows.take t ++ [r0] ++ rows.drop t).length = ([] ++ L.take t ++ [l0] ++ L.drop t).length ∧ ∀ (i : Nat) (r : RowV) (l : Int × List Int), ([] ++ rows.take t ++ [r0] ++ rows.drop t)[i]? = some r → ([] ++ L.take t ++ [l0] ++ L.drop t)[i]? = some l → Q r l := by
  have e1 : (rows.take t).length = (L.take t).length := by rw [List.length_take, List.length_take, hl]
  have e2 : ([] ++ rows.take t ++ [r0]).length = ([] ++ L.take t ++ [l0]).length := by simp [hl]
  refine ⟨by simp [hl], pair_append e2 (pair_append (by simpa using e1) ?_ ?_) ?_⟩
  · intro i r l hr hL
    rw [List.nil_append, List.getElem?_take] at hr hL
    split at hr
    · rw [if_pos (by assumption)] at hL
      exact h i r l hr hL
    · cases hr
  · intro i r l hr hL
    cases i with
    | zero => simp only [List.getElem?_cons_zero, Option.some.injEq] at hr hL; subst hr hL; exact h0
    | succ i => simp at hr
  · intro i r l hr hL
    rw [List.getElem?_drop] at hr hL
    exact h _ r l hr hL

theorem refAdd_end {w wy w97 : World} {b : Nat} {L : List (Int × List Int)} {id : Int} {A : Option Addr} {c : Nat} {rows : List RowV} (h1 : w.heap[b]? = some (.cells #[.slice A rows.length c] 40 (0, 0))) (h4 : rows.length = L.length)
    (h5 : ∀ (i : Nat) (r : RowV) (l : Int × List Int), rows[i]? = some r → L[i]? = some l → r.id = l.1 ∧ IsL w b (.slice r.a r.n r.c) l.2) (hxy : Ext NoB w wy) {Ar : Option Addr} {cr br orr : Nat} {r : List Int} {gr : Option Nat} (hrr : SlR wy 1 intE Ar cr br orr r) (hgr : ∀ q, gr = some q → w.heap.size ≤ q) (hgrr : 0 < r.length → gr = some br)
    (hE : Ext NoB wy w97) (t : Nat) {rows97 : List RowV} (hl : [] ++ rows.take t ++ [(⟨id, Ar, r.length, cr⟩ : RowV)] ++ rows.drop t = rows97) {A97 : Option Addr} {c97 : Nat} {g97 : Option Nat} (hO : SlO w97 63 2 rowE g97 (.slice A97 rows97.length c97) rows97) (hq : ∀ q, g97 = some q → wy.heap.size ≤ q) :
    RefAt (w97.setCell ⟨b, 0, none⟩ (.slice A97 rows97.length c97)) b ([] ++ L.take t ++ [(id, r)] ++ L.drop t) ∧ Ext (fun q => q = b) w (w97.setCell ⟨b, 0, none⟩ (.slice A97 rows97.length c97)) := by
  have hbw := lt_of_block h1
  have hwy := hxy.size
  have hset : Ext (fun q => q = b) w97 (w97.setCell ⟨b, 0, none⟩ (.slice A97 rows97.length c97)) := (Ext.refl (fun q => q = b) w97).setCell (fun _ => rfl) _
  have hall : Ext (fun q => q = b) w (w97.setCell ⟨b, 0, none⟩ (.slice A97 rows97.length c97)) := ((hxy.trans hE (fun _ _ h => h)).mono (fun _ _ h => h.elim)).trans hset (fun _ _ h => h)
  obtain ⟨A', c', b', o', e, hr, hg⟩ := hO.read
  have hcan := hO.can
  simp only [Value.slice.injEq, true_and] at e
  obtain ⟨rfl, rfl⟩ := e
  obtain ⟨p1, p2⟩ := pair_ins (Q := fun r l => r.id = l.1 ∧ IsL (w97.setCell ⟨b, 0, none⟩ (.slice A97 rows97.length c97)) b (.slice r.a r.n r.c) l.2) h4 (fun i r l h h' => ⟨(h5 i r l h h').1, (h5 i r l h h').2.keep hall (fun q hq _ e => by omega)⟩) t (r0 := ⟨id, Ar, r.length, cr⟩) (l0 := (id, r)) ⟨rfl, Ar, cr, br, orr, rfl, (hrr.keep hE nb1).keep hset (fun hp e => by have := hgr br (hgrr hp); omega), fun hp => by have := hgr br (hgrr hp); omega⟩
  rw [hl] at p1 p2
  exact ⟨⟨A97, c97, b', o', rows97, setCell_block (hE.keep (hxy.keep h1 nb) nb), hr.keep hset (fun hp e => by have := hq b' (hg hp); omega), ⟨fun hp => by have := hq b' (hg hp); omega, hcan⟩, p1, p2⟩, hall⟩

/-- What Add answers. -/
def AddRes (L : List (Int × List Int)) (id : Int) (ps : List Int) (m er : Int) (L' : List (Int × List Int)) : Prop :=
  (AddBad id ps ∧ m = 0 ∧ er = 1 ∧ L' = L) ∨ (¬ AddBad id ps ∧ ((∃ l ∈ L, l.1 = id) ∧ m = 0 ∧ er = 9 ∧ L' = L ∨
    (∀ l ∈ L, l.1 ≠ id) ∧ er = 0 ∧ ∃ r : List Int, SetList r (· ∈ ps) ∧ m = r.length ∧ (r = [] ∧ L' = L ∨ r ≠ [] ∧ AddIns L id r L')))

/-- What holds behind Add. -/
def RefAddPost (b : Nat) (L : List (Int × List Int)) (id : Int) (ps : List Int) (w : World) (e : Ending) (w' : World) : Prop :=
  ∃ (m er : Int) (L' : List (Int × List Int)), e = .returned (.tuple #[.int .i64 m, .int .i64 er]) ∧ AddRes L id ps m er L' ∧ RefAt w' b L' ∧ Ext (fun q => q = b) w w'
theorem refAdd_mk {b : Nat} {L : List (Int × List Int)} {id : Int} {ps : List Int} {w w' : World} {e : Ending} (m er : Int) (L' : List (Int × List Int)) (he : e = .returned (.tuple #[.int .i64 m, .int .i64 er])) (h1 : AddRes L id ps m er L') (h2 : RefAt w' b L') (h3 : Ext (fun q => q = b) w w') : RefAddPost b L id ps w e w' :=
  ⟨m, er, L', he, h1, h2, h3⟩

set_option maxRecDepth 100000 in
set_option maxHeartbeats 4000000 in
theorem refAdd_calls (b : Nat) (L : List (Int × List Int)) (id : Int) (A0 : Option Addr) (c0 pb po : Nat) (ps : List Int) (w : World) (h : RefAt w b L) (hinc : L.Pairwise (fun a b => a.1 < b.1)) (hx : SlR w 1 intE A0 c0 pb po ps) (hL : L.length ≤ 1000000) (hps : ps.length ≤ 1000000) :
    Calls Try.prog 16 #[.pointer (some ⟨b, 0, none⟩), .int .i64 id, .slice A0 ps.length c0] w (RefAddPost b L id ps w) := by
  have hR0 := h
  obtain ⟨A, c, b', o, rows, h1, h2, h3, h4, h5⟩ := h
  have hle := h2.le
  have hmx := h2.max
  unfold maxLen at hmx
  have hlx := hx.le
  have hmxx := hx.max
  unfold maxLen at hmxx
  have hbw := lt_of_block h1
  have hc0 : w.cell? ⟨b, 0, none⟩ = some (.slice A L.length c) := by rw [cell_of_row w b 0 _ _ (0, 0) h1, h4]; rfl
  have hf0 : w.frozen? ⟨b, 0, none⟩ = false := by simp [World.frozen?, h1]
  rw [h4] at hle
  by_cases hid1 : id < 1
  · have hbad : Hid (AddRes L id ps 0 1 L) := .inl ⟨.inl hid1, rfl, rfl, rfl⟩
    go_enter Try.func16, Try.ntmps16
    go_wp2_with fail
    go_ret2
    exact refAdd_mk 0 1 L rfl hbad.out hR0 (Ext.refl _ _)
  · have hd1 : decide (id < 1) = false := by simp; omega
    go_enter Try.func16, Try.ntmps16
    go_wp2_with fail
    go_loop [8] (fun i => ∃ k : Nat, k ≤ ps.length ∧ i = .int .i64 k ∧ Hid (∀ p ∈ ps.take k, 1 ≤ p ∧ p < id)) (fun i => ps.length - (intOf i).toNat)
    case atStart => exact ⟨0, Nat.zero_le _, rfl, fun p hp => by simp at hp⟩
    case round =>
      obtain ⟨k, hk, rfl, hno⟩ := hrel
      by_cases hlt : k < ps.length
      · obtain rfl := hx.addr (by omega)
        have hck := hx.intCell k hlt
        have htk := Lib.hid (List.take_succ_eq_append_getElem hlt)
        have hmem := Lib.hid (List.getElem_mem hlt)
        generalize ps[k] = p at *
        by_cases hp1 : p < 1
        · have hbad : Hid (AddRes L id ps 0 1 L) := .inl ⟨.inr ⟨p, hmem.out, .inl hp1⟩, rfl, rfl, rfl⟩
          have t1 : decide (p < 1) = true := by simp [hp1]
          go_wp2_with fail
          go_ret2
          exact refAdd_mk 0 1 L rfl hbad.out hR0 (Ext.refl _ _)
        · have t1 : decide (p < 1) = false := by simp; omega
          by_cases hp2 : id ≤ p
          · have hbad : Hid (AddRes L id ps 0 1 L) := .inl ⟨.inr ⟨p, hmem.out, .inr hp2⟩, rfl, rfl, rfl⟩
            have t2 : decide (id ≤ p) = true := by simp [hp2]
            go_wp2_with fail
            go_ret2
            exact refAdd_mk 0 1 L rfl hbad.out hR0 (Ext.refl _ _)
          · have t2 : decide (id ≤ p) = false := by simp; omega
            go_wp2_with fail
            go_round
            case rel =>
              refine ⟨k + 1, by omega, by go_num, fun q hq => ?_⟩
              rw [htk.out, List.mem_append, List.mem_singleton] at hq
              rcases hq with hq | rfl
              · exact hno.out q hq
              · omega
            case measure => simp [intOf]; omega
      · have hok : Hid (¬ AddBad id ps) := by
          rintro (hh | ⟨p, hp, hh⟩)
          · omega
          · have := hno.out
            rw [List.take_of_length_le (by omega)] at this
            have := this p hp
            omega
        clear hno
        go_wp2_with fail
        go_loop [9] (fun i => ∃ t : Nat, t ≤ L.length ∧ i = .int .i64 t ∧ Hid (∀ q (h : q < L.length), q < t → (L[q]).1 < id)) (fun i => L.length - (intOf i).toNat)
        case atStart => exact ⟨0, Nat.zero_le _, rfl, fun q h hq => absurd hq (Nat.not_lt_zero _)⟩
        case round =>
          obtain ⟨t, ht, rfl, hlow⟩ := hrel
          by_cases htl : t < L.length
          · obtain rfl := h2.addr (by omega)
            obtain ⟨A1, c1, b1, o1, g1, g2, g3, g4⟩ := RefAt.at h2 h5 h4 htl
            have hd2 : decide (t < L.length) = true := by simp [htl]
            have hLt := Lib.hid (List.getElem_mem htl)
            have hnext : Hid ((L[t]).1 < id → ∀ q (h : q < L.length), q < t + 1 → (L[q]).1 < id) := fun hl q h hq => by
              by_cases hqt : q = t
              · subst hqt; exact hl
              · exact hlow.out q h (by omega)
            have hhigh : Hid (id < (L[t]).1 → ∀ q (h : q < L.length), t ≤ q → id < (L[q]).1) := fun hl q h hq => by
              by_cases hqt : q = t
              · subst hqt; exact hl
              · have := List.pairwise_iff_getElem.1 hinc t q htl h (by omega)
                omega
            generalize L[t] = l at *
            by_cases hl1 : l.1 < id
            · have hd3 : decide (l.1 < id) = true := by simp [hl1]
              go_wp2_with fail
              go_round
              case rel => exact ⟨t + 1, by omega, by go_num, hnext.out hl1⟩
              case measure => simp [intOf]; omega
            · have hd3 : decide (l.1 < id) = false := by simp; omega
              by_cases hl2 : l.1 = id
              · have hd4 : (l.1 == id) = true := by simp [hl2]
                have hres : Hid (AddRes L id ps 0 9 L) := .inr ⟨hok.out, .inl ⟨⟨l, hLt.out, hl2⟩, rfl, rfl, rfl⟩⟩
                clear hl2
                go_wp2_with fail
                go_ret2
                exact refAdd_mk 0 9 L rfl hres.out hR0 (Ext.refl _ _)
              · have hd4 : (l.1 == id) = false := by simp [hl2]
                have hhi := hhigh.out (by omega)
                have hhi' := Lib.hid hhi
                have hnone : Hid (∀ l ∈ L, l.1 ≠ id) := fun l' hl' e => by
                  obtain ⟨q, hq, rfl⟩ := List.mem_iff_getElem.1 hl'
                  by_cases hqt : q < t
                  · have := hlow.out q hq hqt; omega
                  · have := hhi q hq (by omega); omega
                clear hhi hl2
                go_wp2_with fail
                with_reducible refine (rising_calls A0 c0 pb po ps w hx hps).mono ?_
                rintro e wy ⟨vr, gr, r, rfl, hOr, hsr, hlr, hgr, hxy⟩
                obtain ⟨Ar, cr, br, orr, rfl, hrr, hgrr⟩ := hOr.read
                by_cases hr0 : r = []
                · have hd5 : decide (0 < r.length) = false := by simp [hr0]
                  have hres : Hid (AddRes L id ps r.length 0 L) := .inr ⟨hok.out, .inr ⟨hnone.out, rfl, r, hsr, rfl, .inl ⟨hr0, rfl⟩⟩⟩
                  have hRy := hR0.keep hxy (fun _ _ _ => nb)
                  clear hr0
                  go_wp2_with fail
                  go_ret2
                  exact refAdd_mk _ 0 L rfl hres.out hRy (hxy.mono (fun _ _ h => h.elim))
                · have hd5 : decide (0 < r.length) = true := by simp; exact List.length_pos_iff.2 hr0
                  have hins : AddIns L id r ([] ++ L.take t ++ [(id, r)] ++ L.drop t) := ⟨t, ht, hlow.out, hhi'.out, rfl⟩
                  have hres : Hid (AddRes L id ps r.length 0 ([] ++ L.take t ++ [(id, r)] ++ L.drop t)) := .inr ⟨hok.out, .inr ⟨hnone.out, rfl, r, hsr, rfl, .inr ⟨hr0, hins⟩⟩⟩
                  clear hins hr0
                  go_wp2_with fail
                  have hc0y : wy.cell? ⟨b, 0, none⟩ = some (.slice (some ⟨b', o, none⟩) L.length c) := hxy.cell hc0 nb
                  have hf0y := hxy.free hc0 hf0 nb
                  have hrowsy := h2.keep hxy nb1
                  have hby := hxy.lt hbw
                  have htr : t ≤ rows.length := by omega
                  have hti : (t : Int) ≤ (c : Int) := by omega
                  have htn : t ≤ c := by omega
                  have hct : ¬ c = t := by omega
                  have q1 : (([] : List RowV).length + (rows.take t).length) * 32 ≤ 140737488355328 := by rw [List.length_take, List.length_nil]; omega
                  have q2 : ([] : List RowV).length + (rows.take t).length ≤ maxLen := by rw [List.length_take, List.length_nil]; unfold maxLen; omega
                  have q3 : t = (rows.take t).length := by rw [List.length_take]; omega
                  have q4 : (([] ++ rows.take t).length + [(⟨id, Ar, r.length, cr⟩ : RowV)].length) * 32 ≤ 140737488355328 := by simp; omega
                  have q5 : ([] ++ rows.take t).length + [(⟨id, Ar, r.length, cr⟩ : RowV)].length ≤ maxLen := by unfold maxLen; simp; omega
                  have q6 : (([] ++ rows.take t ++ [(⟨id, Ar, r.length, cr⟩ : RowV)]).length + (rows.drop t).length) * 32 ≤ 140737488355328 := by simp; omega
                  have q7 : ([] ++ rows.take t ++ [(⟨id, Ar, r.length, cr⟩ : RowV)]).length + (rows.drop t).length ≤ maxLen := by unfold maxLen; simp; omega
                  have q8 : L.length - t = (rows.drop t).length := by rw [List.length_drop]; omega
                  have q1' := Lib.hid q1
                  have q3' := Lib.hid q3
                  have q8' := Lib.hid q8
                  have h4' := Lib.hid h4
                  clear h4 q1 q3 q8
                  refine wp_region_V 23 (fun w' => w'.cell? ⟨b, 0, none⟩ = some (.slice (some ⟨b', o, none⟩) L.length c)) (by kernel_rfl) ?_
                  try simp only [Act.put, List.setIfInBounds_toArray, List.set_cons_zero, List.set_cons_succ]
                  refine wpAnyV_take (i := 0) (by kernel_rfl) (by kernel_rfl) (by kernel_rfl) (by kernel_rfl) (by kernel_rfl) hc0y (fun o ho => ?_)
                  conv at ho => rhs; whnf
                  subst ho
                  refine ⟨?_, fun _ _ _ h => h, Or.inl ⟨by rfl, ?_⟩, ?_⟩
                  rotate_left
                  · intro w hSw
                    try dsimp only at hSw
                    first | (go_simp; done) | (go_simp; with_reducible rfl)
                  try simp only [Act.put, List.setIfInBounds_toArray, List.set_cons_zero, List.set_cons_succ]
                  refine wpAnyV_take (i := 2) (by kernel_rfl) (by kernel_rfl) (by kernel_rfl) (by kernel_rfl) (by kernel_rfl) hc0y (fun o ho => ?_)
                  conv at ho => rhs; whnf
                  subst ho
                  refine ⟨?_, fun _ _ _ h => h, Or.inl ⟨by rfl, ?_⟩, ?_⟩
                  rotate_left
                  · intro w hSw
                    try dsimp only at hSw
                    first | (go_simp; done) | (go_simp; with_reducible rfl)
                  try simp only [Act.put, List.setIfInBounds_toArray, List.set_cons_zero, List.set_cons_succ]
                  refine wpAnyV_take (i := 3) (by kernel_rfl) (by kernel_rfl) (by kernel_rfl) (by kernel_rfl) (by kernel_rfl) hc0y (fun o ho => ?_)
                  conv at ho => rhs; whnf
                  subst ho
                  refine ⟨?_, fun _ _ _ h => h, Or.inl ⟨by rfl, ?_⟩, ?_⟩
                  rotate_left
                  · intro w hSw
                    try dsimp only at hSw
                    first | (go_simp; done) | (go_simp; with_reducible rfl)
                  try simp only [Act.put, List.setIfInBounds_toArray, List.set_cons_zero, List.set_cons_succ]
                  refine wpAnyV_take (i := 4) (by kernel_rfl) (by kernel_rfl) (by kernel_rfl) (by kernel_rfl) (by kernel_rfl) hc0y (fun o ho => ?_)
                  conv at ho => rhs; whnf
                  subst ho
                  refine ⟨?_, fun _ _ _ h => h, Or.inl ⟨by rfl, ?_⟩, ?_⟩
                  rotate_left
                  · intro w hSw
                    try dsimp only at hSw
                    first | (go_simp; done) | (go_simp; with_reducible rfl)
                  try simp only [Act.put, List.setIfInBounds_toArray, List.set_cons_zero, List.set_cons_succ]
                  refine wpAnyV_take (i := 5) (by kernel_rfl) (by kernel_rfl) (by kernel_rfl) (by kernel_rfl) (by kernel_rfl) hc0y (fun o ho => ?_)
                  conv at ho => rhs; whnf
                  subst ho
                  refine ⟨?_, fun _ _ _ h => h, Or.inl ⟨by rfl, ?_⟩, ?_⟩
                  rotate_left
                  · intro w hSw
                    try dsimp only at hSw
                    first | (go_simp; done) | (go_simp; with_reducible rfl)
                  try simp only [Act.put, List.setIfInBounds_toArray, List.set_cons_zero, List.set_cons_succ]
                  refine wpAnyV_take (i := 6) (by kernel_rfl) (by kernel_rfl) (by kernel_rfl) (by kernel_rfl) (by kernel_rfl) hc0y (fun o ho => ?_)
                  conv at ho => rhs; whnf
                  subst ho
                  refine ⟨?_, fun _ _ _ h => h, Or.inl ⟨by rfl, ?_⟩, ?_⟩
                  rotate_left
                  · intro w hSw
                    try dsimp only at hSw
                    first | (go_simp; done) | (go_simp; with_reducible rfl)
                  try simp only [Act.put, List.setIfInBounds_toArray, List.set_cons_zero, List.set_cons_succ]
                  refine wpAnyV_take (i := 7) (by kernel_rfl) (by kernel_rfl) (by kernel_rfl) (by kernel_rfl) (by kernel_rfl) hc0y (fun o ho => ?_)
                  conv at ho => rhs; whnf
                  subst ho
                  refine ⟨?_, fun _ _ _ h => h, Or.inl ⟨by rfl, ?_⟩, ?_⟩
                  rotate_left
                  · intro w hSw
                    try dsimp only at hSw
                    first | (go_simp; done) | (go_simp; with_reducible rfl)
                  try simp only [Act.put, List.setIfInBounds_toArray, List.set_cons_zero, List.set_cons_succ]
                  refine wpAnyV_take (i := 9) (by kernel_rfl) (by kernel_rfl) (by kernel_rfl) (by kernel_rfl) (by kernel_rfl) hc0y (fun o ho => ?_)
                  conv at ho => rhs; whnf
                  subst ho
                  refine ⟨?_, fun _ _ _ h => h, Or.inl ⟨by rfl, ?_⟩, ?_⟩
                  rotate_left
                  · intro w hSw
                    try dsimp only at hSw
                    first | (go_simp; done) | (go_simp; with_reducible rfl)
                  try simp only [Act.put, List.setIfInBounds_toArray, List.set_cons_zero, List.set_cons_succ]
                  refine wpAnyV_take (i := 10) (by kernel_rfl) (by kernel_rfl) (by kernel_rfl) (by kernel_rfl) (by kernel_rfl) hc0y (fun o ho => ?_)
                  conv at ho => rhs; whnf
                  subst ho
                  refine ⟨?_, fun _ _ _ h => h, Or.inl ⟨by rfl, ?_⟩, ?_⟩
                  rotate_left
                  · intro w hSw
                    try dsimp only at hSw
                    first | (go_simp; done) | (go_simp; with_reducible rfl)
                  try simp only [Act.put, List.setIfInBounds_toArray, List.set_cons_zero, List.set_cons_succ]
                  refine wpAnyV_take (i := 11) (by kernel_rfl) (by kernel_rfl) (by kernel_rfl) (by kernel_rfl) (by kernel_rfl) hc0y (fun o ho => ?_)
                  conv at ho => rhs; whnf
                  subst ho
                  refine ⟨?_, fun _ _ _ h => h, Or.inl ⟨by rfl, ?_⟩, ?_⟩
                  rotate_left
                  · intro w hSw
                    try dsimp only at hSw
                    first | (go_simp; done) | (go_simp; with_reducible rfl)
                  try simp only [Act.put, List.setIfInBounds_toArray, List.set_cons_zero, List.set_cons_succ]
                  refine wpAnyV_take (i := 14) (by kernel_rfl) (by kernel_rfl) (by kernel_rfl) (by kernel_rfl) (by kernel_rfl) hc0y (fun o ho => ?_)
                  conv at ho => rhs; whnf
                  subst ho
                  refine ⟨?_, fun _ _ _ h => h, Or.inl ⟨by rfl, ?_⟩, ?_⟩
                  rotate_left
                  · intro w hSw
                    try dsimp only at hSw
                    first | (go_simp; done) | (go_simp; with_reducible rfl)
                  try simp only [Act.put, List.setIfInBounds_toArray, List.set_cons_zero, List.set_cons_succ]
                  refine wpAnyV_take (i := 15) (by kernel_rfl) (by kernel_rfl) (by kernel_rfl) (by kernel_rfl) (by kernel_rfl) hc0y (fun o ho => ?_)
                  conv at ho => rhs; whnf
                  subst ho
                  refine ⟨?_, fun _ _ _ h => h, Or.inl ⟨by rfl, ?_⟩, ?_⟩
                  rotate_left
                  · intro w hSw
                    try dsimp only at hSw
                    first | (go_simp; done) | (go_simp; with_reducible rfl)
                  try simp only [Act.put, List.setIfInBounds_toArray, List.set_cons_zero, List.set_cons_succ]
                  refine wpAnyV_take (i := 16) (by kernel_rfl) (by kernel_rfl) (by kernel_rfl) (by kernel_rfl) (by kernel_rfl) hc0y (fun o ho => ?_)
                  conv at ho => rhs; whnf
                  subst ho
                  refine ⟨?_, fun _ _ _ h => h, Or.inl ⟨by rfl, ?_⟩, ?_⟩
                  rotate_left
                  · intro w hSw
                    try dsimp only at hSw
                    first | (go_simp; done) | (go_simp; with_reducible rfl)
                  try simp only [Act.put, List.setIfInBounds_toArray, List.set_cons_zero, List.set_cons_succ]
                  refine wpAnyV_take (i := 17) (by kernel_rfl) (by kernel_rfl) (by kernel_rfl) (by kernel_rfl) (by kernel_rfl) hc0y (fun o ho => ?_)
                  conv at ho => rhs; whnf
                  subst ho
                  refine ⟨?_, fun _ _ _ h => h, Or.inl ⟨by rfl, ?_⟩, ?_⟩
                  rotate_left
                  · intro w hSw
                    try dsimp only at hSw
                    first | (go_simp; done) | (go_simp; with_reducible rfl)
                  try simp only [Act.put, List.setIfInBounds_toArray, List.set_cons_zero, List.set_cons_succ]
                  refine wpAnyV_take (i := 18) (by kernel_rfl) (by kernel_rfl) (by kernel_rfl) (by kernel_rfl) (by kernel_rfl) hc0y (fun o ho => ?_)
                  conv at ho => rhs; whnf
                  subst ho
                  refine ⟨?_, fun _ _ _ h => h, Or.inl ⟨by rfl, ?_⟩, ?_⟩
                  rotate_left
                  · intro w hSw
                    try dsimp only at hSw
                    first | (go_simp; done) | (go_simp; with_reducible rfl)
                  try simp only [Act.put, List.setIfInBounds_toArray, List.set_cons_zero, List.set_cons_succ]
                  refine wpAnyV_take (i := 19) (by kernel_rfl) (by kernel_rfl) (by kernel_rfl) (by kernel_rfl) (by kernel_rfl) hc0y (fun o ho => ?_)
                  conv at ho => rhs; whnf
                  subst ho
                  refine ⟨?_, fun _ _ _ h => h, Or.inl ⟨by rfl, ?_⟩, ?_⟩
                  rotate_left
                  · intro w hSw
                    try dsimp only at hSw
                    first | (go_simp; done) | (go_simp; with_reducible rfl)
                  try simp only [Act.put, List.setIfInBounds_toArray, List.set_cons_zero, List.set_cons_succ]
                  refine wpAnyV_two (i := 1) (j := 12) (by kernel_rfl) (by kernel_rfl) (by kernel_rfl) (fun o ho K hK => ?_) (fun o ho K hK => ?_)
                  · conv at ho => rhs; whnf
                    subst ho
                    go_simp
                    refine hK.out _ _ (Or.inr (Ext.cell ((Ext.refl NoB _).alloc _) hc0y nb)) ?_
                    clear hK K
                    try simp only [Act.put, List.setIfInBounds_toArray, List.set_cons_zero, List.set_cons_succ]
                    refine wpAnyV_two (i := 8) (j := 12) (by kernel_rfl) (by kernel_rfl) (by kernel_rfl) (fun o ho K hK => ?_) (fun o ho K hK => ?_)
                    · conv at ho => rhs; whnf
                      subst ho
                      refine step_appendW wy 38 32 elem_row rowE_len rowE_one (some (wy.heap.size)) (.slice (some ⟨wy.heap.size, 0, none⟩) 0 0) ([]) (rows.take t) (.tmp 78) (.tmp 84) (some ⟨b', o, none⟩) (c) (b') (o) (t) q1'.out q2 q3'.out (ne_own (by omega)) rfl rfl rfl rfl ((Ext.refl NoB wy).drew.alloc _) (SlO.made (b := wy.heap.size) (xs := ([] : List RowV)) (cs := #[]) (alloc_at wy.drew _) rfl rowE_len (Nat.zero_le _)) ((SlR.keep hrowsy ((Ext.refl NoB wy).drew.alloc _) nb1).take rowE_len htr) (fun v85 w85 g85 hO85 hx85 hE85 hq85 => ?_)
                      try go_simp
                      refine hK.out _ _ (Or.inr (hE85.cell hc0y nb)) ?_
                      clear hK K
                      try simp only [Act.put, List.setIfInBounds_toArray, List.set_cons_zero, List.set_cons_succ]
                      refine wpAnyV_one (i := 12) (by kernel_rfl) (by kernel_rfl) (fun o ho K hK => ?_)
                      conv at ho => rhs; whnf
                      subst ho
                      go_simp
                      refine hK.out _ _ (Or.inr (Ext.cell ((Ext.refl NoB _).alloc _) (hE85.cell hc0y nb) nb)) ?_
                      clear hK K
                      try simp only [Act.put, List.setIfInBounds_toArray, List.set_cons_zero, List.set_cons_succ]
                      refine wpAnyV_one (i := 13) (by kernel_rfl) (by kernel_rfl) (fun o ho K hK => ?_)
                      conv at ho => rhs; whnf
                      subst ho
                      refine step_appendW wy 38 32 elem_row rowE_len rowE_one (g85) (v85) ([] ++ rows.take t) ([(⟨id, Ar, r.length, cr⟩ : RowV)]) (.tmp 85) (.tmp 89) (some ⟨w85.heap.size, 0, none⟩) (1) (w85.heap.size) (0) (1) q4 q5 rfl hq85 rfl rfl rfl rfl (hE85.alloc _) (hO85.keep (F := NoB) ((Ext.refl NoB w85).alloc _) (fun _ _ => nb)) (SlR.one' (E := 63) (fr := (0, 0)) (cs := #[.int .i64 id, .slice Ar r.length cr]) (alloc_at w85 _) rfl) (fun v90 w90 g90 hO90 hx90 hE90 hq90 => ?_)
                      try go_simp
                      refine hK.out _ _ (Or.inr (hE90.cell hc0y nb)) ?_
                      clear hK K
                      try simp only [Act.put, List.setIfInBounds_toArray, List.set_cons_zero, List.set_cons_succ]
                      refine wpAnyV_one (i := 20) (by kernel_rfl) (by kernel_rfl) (fun o ho K hK => ?_)
                      conv at ho => rhs; whnf
                      subst ho
                      refine step_appendW wy 38 32 elem_row rowE_len rowE_one (g90) (v90) ([] ++ rows.take t ++ [(⟨id, Ar, r.length, cr⟩ : RowV)]) (rows.drop t) (.tmp 90) (.tmp 96) (some ⟨b', o + t * 2, none⟩) (c - t) (b') (o + t * 2) (L.length - t) q6 q7 q8'.out hq90 rfl rfl rfl rfl (hE90) (hO90) ((SlR.keep hrowsy hE90 nb1).dropK (n := t) rowE_len htr (fun _ => rfl)) (fun v97 w97 g97 hO97 hx97 hE97 hq97 => ?_)
                      generalize hl97 : [] ++ rows.take t ++ [(⟨id, Ar, r.length, cr⟩ : RowV)] ++ rows.drop t = rows97 at hO97
                      have hl97' := Lib.hid hl97
                      clear hl97
                      obtain ⟨A97, c97, b97, o97, rfl, hr97, hg97⟩ := hO97.read
                      try go_simp
                      refine hK.out _ _ (Or.inr (hE97.cell hc0y nb)) ?_
                      clear hK K
                      try simp only [Act.put, List.setIfInBounds_toArray, List.set_cons_zero, List.set_cons_succ]
                      have zc97 := hE97.cell hc0y nb
                      have zf97 := hE97.free hc0y hf0y nb
                      refine wpAnyV_one (i := 21) (by kernel_rfl) (by kernel_rfl) (fun o ho K hK => ?_)
                      conv at ho => rhs; whnf
                      subst ho
                      go_simp
                      refine hK.out _ _ (Or.inr (hE97.cell hc0y nb)) ?_
                      clear hK K
                      try simp only [Act.put, List.setIfInBounds_toArray, List.set_cons_zero, List.set_cons_succ]
                      refine wpAnyV_one (i := 22) (by kernel_rfl) (by kernel_rfl) (fun o ho K hK => ?_)
                      conv at ho => rhs; whnf
                      subst ho
                      go_simp
                      refine hK.out _ _ (Or.inr (hE97.cell hc0y nb)) ?_
                      clear hK K
                      try simp only [Act.put, List.setIfInBounds_toArray, List.set_cons_zero, List.set_cons_succ]
                      refine wpAnyV_one (i := 23) (by kernel_rfl) (by kernel_rfl) (fun o ho K hK => ?_)
                      conv at ho => rhs; whnf
                      subst ho
                      go_simp
                      refine hK.out _ _ (Or.inl rfl) ?_
                      clear hK K
                      try simp only [Act.put, List.setIfInBounds_toArray, List.set_cons_zero, List.set_cons_succ]
                      refine wpAnyV_done (by kernel_rfl) ?_ _
                      have hend := Lib.hid (refAdd_end h1 h4'.out h5 hxy hrr hgr hgrr hE97 t hl97'.out hO97 hq97)
                      clear hO97 hr97 hg97 h5 h1 hc0 hc0y hf0 hf0y
                      go_wp2_with fail
                      go_ret2
                      exact refAdd_mk _ 0 _ rfl hres.out hend.out.1 hend.out.2
                    · conv at ho => rhs; whnf
                      subst ho
                      go_simp
                      refine hK.out _ _ (Or.inr (Ext.cell (((Ext.refl NoB _).alloc _).alloc _) hc0y nb)) ?_
                      clear hK K
                      try simp only [Act.put, List.setIfInBounds_toArray, List.set_cons_zero, List.set_cons_succ]
                      refine wpAnyV_one (i := 8) (by kernel_rfl) (by kernel_rfl) (fun o ho K hK => ?_)
                      conv at ho => rhs; whnf
                      subst ho
                      refine step_appendW wy 38 32 elem_row rowE_len rowE_one (some (wy.heap.size)) (.slice (some ⟨wy.heap.size, 0, none⟩) 0 0) ([]) (rows.take t) (.tmp 78) (.tmp 84) (some ⟨b', o, none⟩) (c) (b') (o) (t) q1'.out q2 q3'.out (ne_own (by omega)) rfl rfl rfl rfl (((Ext.refl NoB wy).drew.alloc _).alloc _) (SlO.made (b := wy.heap.size) (xs := ([] : List RowV)) (cs := #[]) (((Ext.refl NoB _).alloc _).keep (alloc_at wy.drew _) nb) rfl rowE_len (Nat.zero_le _)) ((SlR.keep hrowsy (((Ext.refl NoB wy).drew.alloc _).alloc _) nb1).take rowE_len htr) (fun v85 w85 g85 hO85 hx85 hE85 hq85 => ?_)
                      try go_simp
                      refine hK.out _ _ (Or.inr (hE85.cell hc0y nb)) ?_
                      clear hK K
                      try simp only [Act.put, List.setIfInBounds_toArray, List.set_cons_zero, List.set_cons_succ]
                      refine wpAnyV_one (i := 13) (by kernel_rfl) (by kernel_rfl) (fun o ho K hK => ?_)
                      conv at ho => rhs; whnf
                      subst ho
                      refine step_appendW wy 38 32 elem_row rowE_len rowE_one (g85) (v85) ([] ++ rows.take t) ([(⟨id, Ar, r.length, cr⟩ : RowV)]) (.tmp 85) (.tmp 89) (some ⟨wy.heap.size + 1, 0, none⟩) (1) (wy.heap.size + 1) (0) (1) q4 q5 rfl hq85 rfl rfl rfl rfl (hE85) (hO85) (SlR.one' (E := 63) (fr := (0, 0)) (cs := #[.int .i64 id, .slice Ar r.length cr]) (hx85.keep (alloc_at' _ _ _ (by simp)) (some_ne (by omega))) rfl) (fun v90 w90 g90 hO90 hx90 hE90 hq90 => ?_)
                      try go_simp
                      refine hK.out _ _ (Or.inr (hE90.cell hc0y nb)) ?_
                      clear hK K
                      try simp only [Act.put, List.setIfInBounds_toArray, List.set_cons_zero, List.set_cons_succ]
                      refine wpAnyV_one (i := 20) (by kernel_rfl) (by kernel_rfl) (fun o ho K hK => ?_)
                      conv at ho => rhs; whnf
                      subst ho
                      refine step_appendW wy 38 32 elem_row rowE_len rowE_one (g90) (v90) ([] ++ rows.take t ++ [(⟨id, Ar, r.length, cr⟩ : RowV)]) (rows.drop t) (.tmp 90) (.tmp 96) (some ⟨b', o + t * 2, none⟩) (c - t) (b') (o + t * 2) (L.length - t) q6 q7 q8'.out hq90 rfl rfl rfl rfl (hE90) (hO90) ((SlR.keep hrowsy hE90 nb1).dropK (n := t) rowE_len htr (fun _ => rfl)) (fun v97 w97 g97 hO97 hx97 hE97 hq97 => ?_)
                      generalize hl97 : [] ++ rows.take t ++ [(⟨id, Ar, r.length, cr⟩ : RowV)] ++ rows.drop t = rows97 at hO97
                      have hl97' := Lib.hid hl97
                      clear hl97
                      obtain ⟨A97, c97, b97, o97, rfl, hr97, hg97⟩ := hO97.read
                      try go_simp
                      refine hK.out _ _ (Or.inr (hE97.cell hc0y nb)) ?_
                      clear hK K
                      try simp only [Act.put, List.setIfInBounds_toArray, List.set_cons_zero, List.set_cons_succ]
                      have zc97 := hE97.cell hc0y nb
                      have zf97 := hE97.free hc0y hf0y nb
                      refine wpAnyV_one (i := 21) (by kernel_rfl) (by kernel_rfl) (fun o ho K hK => ?_)
                      conv at ho => rhs; whnf
                      subst ho
                      go_simp
                      refine hK.out _ _ (Or.inr (hE97.cell hc0y nb)) ?_
                      clear hK K
                      try simp only [Act.put, List.setIfInBounds_toArray, List.set_cons_zero, List.set_cons_succ]
                      refine wpAnyV_one (i := 22) (by kernel_rfl) (by kernel_rfl) (fun o ho K hK => ?_)
                      conv at ho => rhs; whnf
                      subst ho
                      go_simp
                      refine hK.out _ _ (Or.inr (hE97.cell hc0y nb)) ?_
                      clear hK K
                      try simp only [Act.put, List.setIfInBounds_toArray, List.set_cons_zero, List.set_cons_succ]
                      refine wpAnyV_one (i := 23) (by kernel_rfl) (by kernel_rfl) (fun o ho K hK => ?_)
                      conv at ho => rhs; whnf
                      subst ho
                      go_simp
                      refine hK.out _ _ (Or.inl rfl) ?_
                      clear hK K
                      try simp only [Act.put, List.setIfInBounds_toArray, List.set_cons_zero, List.set_cons_succ]
                      refine wpAnyV_done (by kernel_rfl) ?_ _
                      have hend := Lib.hid (refAdd_end h1 h4'.out h5 hxy hrr hgr hgrr hE97 t hl97'.out hO97 hq97)
                      clear hO97 hr97 hg97 h5 h1 hc0 hc0y hf0 hf0y
                      go_wp2_with fail
                      go_ret2
                      exact refAdd_mk _ 0 _ rfl hres.out hend.out.1 hend.out.2
                  · conv at ho => rhs; whnf
                    subst ho
                    go_simp
                    refine hK.out _ _ (Or.inr (Ext.cell ((Ext.refl NoB _).alloc _) hc0y nb)) ?_
                    clear hK K
                    try simp only [Act.put, List.setIfInBounds_toArray, List.set_cons_zero, List.set_cons_succ]
                    refine wpAnyV_one (i := 1) (by kernel_rfl) (by kernel_rfl) (fun o ho K hK => ?_)
                    conv at ho => rhs; whnf
                    subst ho
                    go_simp
                    refine hK.out _ _ (Or.inr (Ext.cell (((Ext.refl NoB _).alloc _).alloc _) hc0y nb)) ?_
                    clear hK K
                    try simp only [Act.put, List.setIfInBounds_toArray, List.set_cons_zero, List.set_cons_succ]
                    refine wpAnyV_one (i := 8) (by kernel_rfl) (by kernel_rfl) (fun o ho K hK => ?_)
                    conv at ho => rhs; whnf
                    subst ho
                    refine step_appendW wy 38 32 elem_row rowE_len rowE_one (some (wy.heap.size + 1)) (.slice (some ⟨wy.heap.size + 1, 0, none⟩) 0 0) ([]) (rows.take t) (.tmp 78) (.tmp 84) (some ⟨b', o, none⟩) (c) (b') (o) (t) q1'.out q2 q3'.out (ne_own (by omega)) rfl rfl rfl rfl (((Ext.refl NoB wy).drew.alloc _).alloc _) (SlO.made (b := wy.heap.size + 1) (xs := ([] : List RowV)) (cs := #[]) (alloc_at' _ _ _ (by simp)) rfl rowE_len (Nat.zero_le _)) ((SlR.keep hrowsy (((Ext.refl NoB wy).drew.alloc _).alloc _) nb1).take rowE_len htr) (fun v85 w85 g85 hO85 hx85 hE85 hq85 => ?_)
                    try go_simp
                    refine hK.out _ _ (Or.inr (hE85.cell hc0y nb)) ?_
                    clear hK K
                    try simp only [Act.put, List.setIfInBounds_toArray, List.set_cons_zero, List.set_cons_succ]
                    refine wpAnyV_one (i := 13) (by kernel_rfl) (by kernel_rfl) (fun o ho K hK => ?_)
                    conv at ho => rhs; whnf
                    subst ho
                    refine step_appendW wy 38 32 elem_row rowE_len rowE_one (g85) (v85) ([] ++ rows.take t) ([(⟨id, Ar, r.length, cr⟩ : RowV)]) (.tmp 85) (.tmp 89) (some ⟨wy.heap.size, 0, none⟩) (1) (wy.heap.size) (0) (1) q4 q5 rfl hq85 rfl rfl rfl rfl (hE85) (hO85) (SlR.one' (E := 63) (fr := (0, 0)) (cs := #[.int .i64 id, .slice Ar r.length cr]) (hx85.keep (((Ext.refl NoB _).alloc _).keep (alloc_at wy.drew _) nb) (some_ne (by omega))) rfl) (fun v90 w90 g90 hO90 hx90 hE90 hq90 => ?_)
                    try go_simp
                    refine hK.out _ _ (Or.inr (hE90.cell hc0y nb)) ?_
                    clear hK K
                    try simp only [Act.put, List.setIfInBounds_toArray, List.set_cons_zero, List.set_cons_succ]
                    refine wpAnyV_one (i := 20) (by kernel_rfl) (by kernel_rfl) (fun o ho K hK => ?_)
                    conv at ho => rhs; whnf
                    subst ho
                    refine step_appendW wy 38 32 elem_row rowE_len rowE_one (g90) (v90) ([] ++ rows.take t ++ [(⟨id, Ar, r.length, cr⟩ : RowV)]) (rows.drop t) (.tmp 90) (.tmp 96) (some ⟨b', o + t * 2, none⟩) (c - t) (b') (o + t * 2) (L.length - t) q6 q7 q8'.out hq90 rfl rfl rfl rfl (hE90) (hO90) ((SlR.keep hrowsy hE90 nb1).dropK (n := t) rowE_len htr (fun _ => rfl)) (fun v97 w97 g97 hO97 hx97 hE97 hq97 => ?_)
                    generalize hl97 : [] ++ rows.take t ++ [(⟨id, Ar, r.length, cr⟩ : RowV)] ++ rows.drop t = rows97 at hO97
                    have hl97' := Lib.hid hl97
                    clear hl97
                    obtain ⟨A97, c97, b97, o97, rfl, hr97, hg97⟩ := hO97.read
                    try go_simp
                    refine hK.out _ _ (Or.inr (hE97.cell hc0y nb)) ?_
                    clear hK K
                    try simp only [Act.put, List.setIfInBounds_toArray, List.set_cons_zero, List.set_cons_succ]
                    have zc97 := hE97.cell hc0y nb
                    have zf97 := hE97.free hc0y hf0y nb
                    refine wpAnyV_one (i := 21) (by kernel_rfl) (by kernel_rfl) (fun o ho K hK => ?_)
                    conv at ho => rhs; whnf
                    subst ho
                    go_simp
                    refine hK.out _ _ (Or.inr (hE97.cell hc0y nb)) ?_
                    clear hK K
                    try simp only [Act.put, List.setIfInBounds_toArray, List.set_cons_zero, List.set_cons_succ]
                    refine wpAnyV_one (i := 22) (by kernel_rfl) (by kernel_rfl) (fun o ho K hK => ?_)
                    conv at ho => rhs; whnf
                    subst ho
                    go_simp
                    refine hK.out _ _ (Or.inr (hE97.cell hc0y nb)) ?_
                    clear hK K
                    try simp only [Act.put, List.setIfInBounds_toArray, List.set_cons_zero, List.set_cons_succ]
                    refine wpAnyV_one (i := 23) (by kernel_rfl) (by kernel_rfl) (fun o ho K hK => ?_)
                    conv at ho => rhs; whnf
                    subst ho
                    go_simp
                    refine hK.out _ _ (Or.inl rfl) ?_
                    clear hK K
                    try simp only [Act.put, List.setIfInBounds_toArray, List.set_cons_zero, List.set_cons_succ]
                    refine wpAnyV_done (by kernel_rfl) ?_ _
                    have hend := Lib.hid (refAdd_end h1 h4'.out h5 hxy hrr hgr hgrr hE97 t hl97'.out hO97 hq97)
                    clear hO97 hr97 hg97 h5 h1 hc0 hc0y hf0 hf0y
                    go_wp2_with fail
                    go_ret2
                    exact refAdd_mk _ 0 _ rfl hres.out hend.out.1 hend.out.2
          · have hte : t = L.length := by omega
            have hd2 : decide (t < L.length) = false := by simp; omega
            have hhi' : Hid (∀ q (h : q < L.length), t ≤ q → id < (L[q]).1) := fun q h hq => by omega
            have hnone : Hid (∀ l ∈ L, l.1 ≠ id) := fun l' hl' e => by
              obtain ⟨q, hq, rfl⟩ := List.mem_iff_getElem.1 hl'
              have := hlow.out q hq (by omega); omega
            have hcan := h3.2
            have hte' := Lib.hid hte
            clear hte htl
            rcases hcan with ⟨rfl, rfl⟩ | ⟨b2, o2, rfl⟩
            · obtain rfl : L = [] := List.eq_nil_of_length_eq_zero (by omega)
              obtain rfl : rows = [] := List.eq_nil_of_length_eq_zero h4
              obtain rfl : t = 0 := hte'.out
              go_wp2_with fail
              with_reducible refine (rising_calls A0 c0 pb po ps w hx hps).mono ?_
              rintro e wy ⟨vr, gr, r, rfl, hOr, hsr, hlr, hgr, hxy⟩
              obtain ⟨Ar, cr, br, orr, rfl, hrr, hgrr⟩ := hOr.read
              by_cases hr0 : r = []
              · have hd5 : decide (0 < r.length) = false := by simp [hr0]
                have hres : Hid (AddRes ([] : List (Int × List Int)) id ps r.length 0 ([] : List (Int × List Int))) := .inr ⟨hok.out, .inr ⟨hnone.out, rfl, r, hsr, rfl, .inl ⟨hr0, rfl⟩⟩⟩
                have hRy := hR0.keep hxy (fun _ _ _ => nb)
                clear hr0
                go_wp2_with fail
                go_ret2
                exact refAdd_mk _ 0 ([] : List (Int × List Int)) rfl hres.out hRy (hxy.mono (fun _ _ h => h.elim))
              · have hd5 : decide (0 < r.length) = true := by simp; exact List.length_pos_iff.2 hr0
                have hins : AddIns ([] : List (Int × List Int)) id r ([] ++ ([] : List (Int × List Int)).take 0 ++ [(id, r)] ++ ([] : List (Int × List Int)).drop 0) := ⟨0, ht, hlow.out, hhi'.out, rfl⟩
                have hres : Hid (AddRes ([] : List (Int × List Int)) id ps r.length 0 ([] ++ ([] : List (Int × List Int)).take 0 ++ [(id, r)] ++ ([] : List (Int × List Int)).drop 0)) := .inr ⟨hok.out, .inr ⟨hnone.out, rfl, r, hsr, rfl, .inr ⟨hr0, hins⟩⟩⟩
                clear hins hr0
                go_wp2_with fail
                have hc0y : wy.cell? ⟨b, 0, none⟩ = some (.slice (none) 0 0) := hxy.cell hc0 nb
                have hf0y := hxy.free hc0 hf0 nb
                have hrowsy := h2.keep hxy nb1
                have hby := hxy.lt hbw
                have htr : 0 ≤ ([] : List RowV).length := by omega
                have hti : (0 : Int) ≤ (0 : Int) := by omega
                have htn : 0 ≤ 0 := by omega
                have hct : True := trivial
                have q1 : (([] : List RowV).length + (([] : List RowV).take 0).length) * 32 ≤ 140737488355328 := by rw [List.length_take, List.length_nil]; omega
                have q2 : ([] : List RowV).length + (([] : List RowV).take 0).length ≤ maxLen := by rw [List.length_take, List.length_nil]; unfold maxLen; omega
                have q3 : 0 = (([] : List RowV).take 0).length := by rw [List.length_take]; omega
                have q4 : (([] ++ ([] : List RowV).take 0).length + [(⟨id, Ar, r.length, cr⟩ : RowV)].length) * 32 ≤ 140737488355328 := by simp <;> omega
                have q5 : ([] ++ ([] : List RowV).take 0).length + [(⟨id, Ar, r.length, cr⟩ : RowV)].length ≤ maxLen := by unfold maxLen; simp <;> omega
                have q6 : (([] ++ ([] : List RowV).take 0 ++ [(⟨id, Ar, r.length, cr⟩ : RowV)]).length + (([] : List RowV).drop 0).length) * 32 ≤ 140737488355328 := by simp <;> omega
                have q7 : ([] ++ ([] : List RowV).take 0 ++ [(⟨id, Ar, r.length, cr⟩ : RowV)]).length + (([] : List RowV).drop 0).length ≤ maxLen := by unfold maxLen; simp <;> omega
                have q8 : 0 - 0 = (([] : List RowV).drop 0).length := by rw [List.length_drop]; omega
                have q1' := Lib.hid q1
                have q3' := Lib.hid q3
                have q8' := Lib.hid q8
                have q10' : Hid (([] : List RowV).drop 0 = []) := rfl
                have h4' := Lib.hid h4
                clear h4 q1 q3 q8
                refine wp_region_V 23 (fun w' => w'.cell? ⟨b, 0, none⟩ = some (.slice (none) 0 0)) (by kernel_rfl) ?_
                try simp only [Act.put, List.setIfInBounds_toArray, List.set_cons_zero, List.set_cons_succ]
                refine wpAnyV_take (i := 0) (by kernel_rfl) (by kernel_rfl) (by kernel_rfl) (by kernel_rfl) (by kernel_rfl) hc0y (fun o ho => ?_)
                conv at ho => rhs; whnf
                subst ho
                refine ⟨?_, fun _ _ _ h => h, Or.inl ⟨by rfl, ?_⟩, ?_⟩
                rotate_left
                · intro w hSw
                  try dsimp only at hSw
                  first | (go_simp; done) | (go_simp; with_reducible rfl)
                try simp only [Act.put, List.setIfInBounds_toArray, List.set_cons_zero, List.set_cons_succ]
                refine wpAnyV_take (i := 2) (by kernel_rfl) (by kernel_rfl) (by kernel_rfl) (by kernel_rfl) (by kernel_rfl) hc0y (fun o ho => ?_)
                conv at ho => rhs; whnf
                subst ho
                refine ⟨?_, fun _ _ _ h => h, Or.inl ⟨by rfl, ?_⟩, ?_⟩
                rotate_left
                · intro w hSw
                  try dsimp only at hSw
                  first | (go_simp; done) | (go_simp; with_reducible rfl)
                try simp only [Act.put, List.setIfInBounds_toArray, List.set_cons_zero, List.set_cons_succ]
                refine wpAnyV_take (i := 3) (by kernel_rfl) (by kernel_rfl) (by kernel_rfl) (by kernel_rfl) (by kernel_rfl) hc0y (fun o ho => ?_)
                conv at ho => rhs; whnf
                subst ho
                refine ⟨?_, fun _ _ _ h => h, Or.inl ⟨by rfl, ?_⟩, ?_⟩
                rotate_left
                · intro w hSw
                  try dsimp only at hSw
                  first | (go_simp; done) | (go_simp; with_reducible rfl)
                try simp only [Act.put, List.setIfInBounds_toArray, List.set_cons_zero, List.set_cons_succ]
                refine wpAnyV_take (i := 4) (by kernel_rfl) (by kernel_rfl) (by kernel_rfl) (by kernel_rfl) (by kernel_rfl) hc0y (fun o ho => ?_)
                conv at ho => rhs; whnf
                subst ho
                refine ⟨?_, fun _ _ _ h => h, Or.inl ⟨by rfl, ?_⟩, ?_⟩
                rotate_left
                · intro w hSw
                  try dsimp only at hSw
                  first | (go_simp; done) | (go_simp; with_reducible rfl)
                try simp only [Act.put, List.setIfInBounds_toArray, List.set_cons_zero, List.set_cons_succ]
                refine wpAnyV_take (i := 5) (by kernel_rfl) (by kernel_rfl) (by kernel_rfl) (by kernel_rfl) (by kernel_rfl) hc0y (fun o ho => ?_)
                conv at ho => rhs; whnf
                subst ho
                refine ⟨?_, fun _ _ _ h => h, Or.inl ⟨by rfl, ?_⟩, ?_⟩
                rotate_left
                · intro w hSw
                  try dsimp only at hSw
                  first | (go_simp; done) | (go_simp; with_reducible rfl)
                try simp only [Act.put, List.setIfInBounds_toArray, List.set_cons_zero, List.set_cons_succ]
                refine wpAnyV_take (i := 6) (by kernel_rfl) (by kernel_rfl) (by kernel_rfl) (by kernel_rfl) (by kernel_rfl) hc0y (fun o ho => ?_)
                conv at ho => rhs; whnf
                subst ho
                refine ⟨?_, fun _ _ _ h => h, Or.inl ⟨by rfl, ?_⟩, ?_⟩
                rotate_left
                · intro w hSw
                  try dsimp only at hSw
                  first | (go_simp; done) | (go_simp; with_reducible rfl)
                try simp only [Act.put, List.setIfInBounds_toArray, List.set_cons_zero, List.set_cons_succ]
                refine wpAnyV_take (i := 7) (by kernel_rfl) (by kernel_rfl) (by kernel_rfl) (by kernel_rfl) (by kernel_rfl) hc0y (fun o ho => ?_)
                conv at ho => rhs; whnf
                subst ho
                refine ⟨?_, fun _ _ _ h => h, Or.inl ⟨by rfl, ?_⟩, ?_⟩
                rotate_left
                · intro w hSw
                  try dsimp only at hSw
                  first | (go_simp; done) | (go_simp; with_reducible rfl)
                try simp only [Act.put, List.setIfInBounds_toArray, List.set_cons_zero, List.set_cons_succ]
                refine wpAnyV_take (i := 9) (by kernel_rfl) (by kernel_rfl) (by kernel_rfl) (by kernel_rfl) (by kernel_rfl) hc0y (fun o ho => ?_)
                conv at ho => rhs; whnf
                subst ho
                refine ⟨?_, fun _ _ _ h => h, Or.inl ⟨by rfl, ?_⟩, ?_⟩
                rotate_left
                · intro w hSw
                  try dsimp only at hSw
                  first | (go_simp; done) | (go_simp; with_reducible rfl)
                try simp only [Act.put, List.setIfInBounds_toArray, List.set_cons_zero, List.set_cons_succ]
                refine wpAnyV_take (i := 10) (by kernel_rfl) (by kernel_rfl) (by kernel_rfl) (by kernel_rfl) (by kernel_rfl) hc0y (fun o ho => ?_)
                conv at ho => rhs; whnf
                subst ho
                refine ⟨?_, fun _ _ _ h => h, Or.inl ⟨by rfl, ?_⟩, ?_⟩
                rotate_left
                · intro w hSw
                  try dsimp only at hSw
                  first | (go_simp; done) | (go_simp; with_reducible rfl)
                try simp only [Act.put, List.setIfInBounds_toArray, List.set_cons_zero, List.set_cons_succ]
                refine wpAnyV_take (i := 11) (by kernel_rfl) (by kernel_rfl) (by kernel_rfl) (by kernel_rfl) (by kernel_rfl) hc0y (fun o ho => ?_)
                conv at ho => rhs; whnf
                subst ho
                refine ⟨?_, fun _ _ _ h => h, Or.inl ⟨by rfl, ?_⟩, ?_⟩
                rotate_left
                · intro w hSw
                  try dsimp only at hSw
                  first | (go_simp; done) | (go_simp; with_reducible rfl)
                try simp only [Act.put, List.setIfInBounds_toArray, List.set_cons_zero, List.set_cons_succ]
                refine wpAnyV_take (i := 14) (by kernel_rfl) (by kernel_rfl) (by kernel_rfl) (by kernel_rfl) (by kernel_rfl) hc0y (fun o ho => ?_)
                conv at ho => rhs; whnf
                subst ho
                refine ⟨?_, fun _ _ _ h => h, Or.inl ⟨by rfl, ?_⟩, ?_⟩
                rotate_left
                · intro w hSw
                  try dsimp only at hSw
                  first | (go_simp; done) | (go_simp; with_reducible rfl)
                try simp only [Act.put, List.setIfInBounds_toArray, List.set_cons_zero, List.set_cons_succ]
                refine wpAnyV_take (i := 15) (by kernel_rfl) (by kernel_rfl) (by kernel_rfl) (by kernel_rfl) (by kernel_rfl) hc0y (fun o ho => ?_)
                conv at ho => rhs; whnf
                subst ho
                refine ⟨?_, fun _ _ _ h => h, Or.inl ⟨by rfl, ?_⟩, ?_⟩
                rotate_left
                · intro w hSw
                  try dsimp only at hSw
                  first | (go_simp; done) | (go_simp; with_reducible rfl)
                try simp only [Act.put, List.setIfInBounds_toArray, List.set_cons_zero, List.set_cons_succ]
                refine wpAnyV_take (i := 16) (by kernel_rfl) (by kernel_rfl) (by kernel_rfl) (by kernel_rfl) (by kernel_rfl) hc0y (fun o ho => ?_)
                conv at ho => rhs; whnf
                subst ho
                refine ⟨?_, fun _ _ _ h => h, Or.inl ⟨by rfl, ?_⟩, ?_⟩
                rotate_left
                · intro w hSw
                  try dsimp only at hSw
                  first | (go_simp; done) | (go_simp; with_reducible rfl)
                try simp only [Act.put, List.setIfInBounds_toArray, List.set_cons_zero, List.set_cons_succ]
                refine wpAnyV_take (i := 17) (by kernel_rfl) (by kernel_rfl) (by kernel_rfl) (by kernel_rfl) (by kernel_rfl) hc0y (fun o ho => ?_)
                conv at ho => rhs; whnf
                subst ho
                refine ⟨?_, fun _ _ _ h => h, Or.inl ⟨by rfl, ?_⟩, ?_⟩
                rotate_left
                · intro w hSw
                  try dsimp only at hSw
                  first | (go_simp; done) | (go_simp; with_reducible rfl)
                try simp only [Act.put, List.setIfInBounds_toArray, List.set_cons_zero, List.set_cons_succ]
                refine wpAnyV_take (i := 18) (by kernel_rfl) (by kernel_rfl) (by kernel_rfl) (by kernel_rfl) (by kernel_rfl) hc0y (fun o ho => ?_)
                conv at ho => rhs; whnf
                subst ho
                refine ⟨?_, fun _ _ _ h => h, Or.inl ⟨by rfl, ?_⟩, ?_⟩
                rotate_left
                · intro w hSw
                  try dsimp only at hSw
                  first | (go_simp; done) | (go_simp; with_reducible rfl)
                try simp only [Act.put, List.setIfInBounds_toArray, List.set_cons_zero, List.set_cons_succ]
                refine wpAnyV_take (i := 19) (by kernel_rfl) (by kernel_rfl) (by kernel_rfl) (by kernel_rfl) (by kernel_rfl) hc0y (fun o ho => ?_)
                conv at ho => rhs; whnf
                subst ho
                refine ⟨?_, fun _ _ _ h => h, Or.inl ⟨by rfl, ?_⟩, ?_⟩
                rotate_left
                · intro w hSw
                  try dsimp only at hSw
                  first | (go_simp; done) | (go_simp; with_reducible rfl)
                try simp only [Act.put, List.setIfInBounds_toArray, List.set_cons_zero, List.set_cons_succ]
                refine wpAnyV_two (i := 1) (j := 12) (by kernel_rfl) (by kernel_rfl) (by kernel_rfl) (fun o ho K hK => ?_) (fun o ho K hK => ?_)
                · conv at ho => rhs; whnf
                  subst ho
                  go_simp
                  refine hK.out _ _ (Or.inr (Ext.cell ((Ext.refl NoB _).alloc _) hc0y nb)) ?_
                  clear hK K
                  try simp only [Act.put, List.setIfInBounds_toArray, List.set_cons_zero, List.set_cons_succ]
                  refine wpAnyV_two (i := 8) (j := 12) (by kernel_rfl) (by kernel_rfl) (by kernel_rfl) (fun o ho K hK => ?_) (fun o ho K hK => ?_)
                  · conv at ho => rhs; whnf
                    subst ho
                    refine step_appendW wy 38 32 elem_row rowE_len rowE_one (some (wy.heap.size)) (.slice (some ⟨wy.heap.size, 0, none⟩) 0 0) ([]) (([] : List RowV).take 0) (.tmp 78) (.tmp 84) (none) (0) (b') (o) (0) q1'.out q2 q3'.out (ne_own (by omega)) rfl rfl rfl rfl ((Ext.refl NoB wy).drew.alloc _) (SlO.made (b := wy.heap.size) (xs := ([] : List RowV)) (cs := #[]) (alloc_at wy.drew _) rfl rowE_len (Nat.zero_le _)) ((SlR.keep hrowsy ((Ext.refl NoB wy).drew.alloc _) nb1).take rowE_len htr) (fun v85 w85 g85 hO85 hx85 hE85 hq85 => ?_)
                    try go_simp
                    refine hK.out _ _ (Or.inr (hE85.cell hc0y nb)) ?_
                    clear hK K
                    try simp only [Act.put, List.setIfInBounds_toArray, List.set_cons_zero, List.set_cons_succ]
                    refine wpAnyV_one (i := 12) (by kernel_rfl) (by kernel_rfl) (fun o ho K hK => ?_)
                    conv at ho => rhs; whnf
                    subst ho
                    go_simp
                    refine hK.out _ _ (Or.inr (Ext.cell ((Ext.refl NoB _).alloc _) (hE85.cell hc0y nb) nb)) ?_
                    clear hK K
                    try simp only [Act.put, List.setIfInBounds_toArray, List.set_cons_zero, List.set_cons_succ]
                    refine wpAnyV_one (i := 13) (by kernel_rfl) (by kernel_rfl) (fun o ho K hK => ?_)
                    conv at ho => rhs; whnf
                    subst ho
                    refine step_appendW wy 38 32 elem_row rowE_len rowE_one (g85) (v85) ([] ++ ([] : List RowV).take 0) ([(⟨id, Ar, r.length, cr⟩ : RowV)]) (.tmp 85) (.tmp 89) (some ⟨w85.heap.size, 0, none⟩) (1) (w85.heap.size) (0) (1) q4 q5 rfl hq85 rfl rfl rfl rfl (hE85.alloc _) (hO85.keep (F := NoB) ((Ext.refl NoB w85).alloc _) (fun _ _ => nb)) (SlR.one' (E := 63) (fr := (0, 0)) (cs := #[.int .i64 id, .slice Ar r.length cr]) (alloc_at w85 _) rfl) (fun v90 w90 g90 hO90 hx90 hE90 hq90 => ?_)
                    try go_simp
                    refine hK.out _ _ (Or.inr (hE90.cell hc0y nb)) ?_
                    clear hK K
                    try simp only [Act.put, List.setIfInBounds_toArray, List.set_cons_zero, List.set_cons_succ]
                    refine wpAnyV_one (i := 20) (by kernel_rfl) (by kernel_rfl) (fun o ho K hK => ?_)
                    conv at ho => rhs; whnf
                    subst ho
                    refine step_appendW wy 38 32 elem_row rowE_len rowE_one (g90) (v90) ([] ++ ([] : List RowV).take 0 ++ [(⟨id, Ar, r.length, cr⟩ : RowV)]) (([] : List RowV).drop 0) (.tmp 90) (.tmp 96) (none) (0) (b') (o + 0 * 2) (0) q6 q7 rfl hq90 rfl rfl rfl rfl (hE90) (hO90) (slR_nil q10'.out (by unfold maxLen; omega)) (fun v97 w97 g97 hO97 hx97 hE97 hq97 => ?_)
                    generalize hl97 : [] ++ ([] : List RowV).take 0 ++ [(⟨id, Ar, r.length, cr⟩ : RowV)] ++ ([] : List RowV).drop 0 = rows97 at hO97
                    have hl97' := Lib.hid hl97
                    clear hl97
                    obtain ⟨A97, c97, b97, o97, rfl, hr97, hg97⟩ := hO97.read
                    try go_simp
                    refine hK.out _ _ (Or.inr (hE97.cell hc0y nb)) ?_
                    clear hK K
                    try simp only [Act.put, List.setIfInBounds_toArray, List.set_cons_zero, List.set_cons_succ]
                    have zc97 := hE97.cell hc0y nb
                    have zf97 := hE97.free hc0y hf0y nb
                    refine wpAnyV_one (i := 21) (by kernel_rfl) (by kernel_rfl) (fun o ho K hK => ?_)
                    conv at ho => rhs; whnf
                    subst ho
                    go_simp
                    refine hK.out _ _ (Or.inr (hE97.cell hc0y nb)) ?_
                    clear hK K
                    try simp only [Act.put, List.setIfInBounds_toArray, List.set_cons_zero, List.set_cons_succ]
                    refine wpAnyV_one (i := 22) (by kernel_rfl) (by kernel_rfl) (fun o ho K hK => ?_)
                    conv at ho => rhs; whnf
                    subst ho
                    go_simp
                    refine hK.out _ _ (Or.inr (hE97.cell hc0y nb)) ?_
                    clear hK K
                    try simp only [Act.put, List.setIfInBounds_toArray, List.set_cons_zero, List.set_cons_succ]
                    refine wpAnyV_one (i := 23) (by kernel_rfl) (by kernel_rfl) (fun o ho K hK => ?_)
                    conv at ho => rhs; whnf
                    subst ho
                    go_simp
                    refine hK.out _ _ (Or.inl rfl) ?_
                    clear hK K
                    try simp only [Act.put, List.setIfInBounds_toArray, List.set_cons_zero, List.set_cons_succ]
                    refine wpAnyV_done (by kernel_rfl) ?_ _
                    have hend := Lib.hid (refAdd_end h1 h4'.out h5 hxy hrr hgr hgrr hE97 0 hl97'.out hO97 hq97)
                    clear hO97 hr97 hg97 h5 h1 hc0 hc0y hf0 hf0y
                    go_wp2_with fail
                    go_ret2
                    exact refAdd_mk _ 0 _ rfl hres.out hend.out.1 hend.out.2
                  · conv at ho => rhs; whnf
                    subst ho
                    go_simp
                    refine hK.out _ _ (Or.inr (Ext.cell (((Ext.refl NoB _).alloc _).alloc _) hc0y nb)) ?_
                    clear hK K
                    try simp only [Act.put, List.setIfInBounds_toArray, List.set_cons_zero, List.set_cons_succ]
                    refine wpAnyV_one (i := 8) (by kernel_rfl) (by kernel_rfl) (fun o ho K hK => ?_)
                    conv at ho => rhs; whnf
                    subst ho
                    refine step_appendW wy 38 32 elem_row rowE_len rowE_one (some (wy.heap.size)) (.slice (some ⟨wy.heap.size, 0, none⟩) 0 0) ([]) (([] : List RowV).take 0) (.tmp 78) (.tmp 84) (none) (0) (b') (o) (0) q1'.out q2 q3'.out (ne_own (by omega)) rfl rfl rfl rfl (((Ext.refl NoB wy).drew.alloc _).alloc _) (SlO.made (b := wy.heap.size) (xs := ([] : List RowV)) (cs := #[]) (((Ext.refl NoB _).alloc _).keep (alloc_at wy.drew _) nb) rfl rowE_len (Nat.zero_le _)) ((SlR.keep hrowsy (((Ext.refl NoB wy).drew.alloc _).alloc _) nb1).take rowE_len htr) (fun v85 w85 g85 hO85 hx85 hE85 hq85 => ?_)
                    try go_simp
                    refine hK.out _ _ (Or.inr (hE85.cell hc0y nb)) ?_
                    clear hK K
                    try simp only [Act.put, List.setIfInBounds_toArray, List.set_cons_zero, List.set_cons_succ]
                    refine wpAnyV_one (i := 13) (by kernel_rfl) (by kernel_rfl) (fun o ho K hK => ?_)
                    conv at ho => rhs; whnf
                    subst ho
                    refine step_appendW wy 38 32 elem_row rowE_len rowE_one (g85) (v85) ([] ++ ([] : List RowV).take 0) ([(⟨id, Ar, r.length, cr⟩ : RowV)]) (.tmp 85) (.tmp 89) (some ⟨wy.heap.size + 1, 0, none⟩) (1) (wy.heap.size + 1) (0) (1) q4 q5 rfl hq85 rfl rfl rfl rfl (hE85) (hO85) (SlR.one' (E := 63) (fr := (0, 0)) (cs := #[.int .i64 id, .slice Ar r.length cr]) (hx85.keep (alloc_at' _ _ _ (by simp)) (some_ne (by omega))) rfl) (fun v90 w90 g90 hO90 hx90 hE90 hq90 => ?_)
                    try go_simp
                    refine hK.out _ _ (Or.inr (hE90.cell hc0y nb)) ?_
                    clear hK K
                    try simp only [Act.put, List.setIfInBounds_toArray, List.set_cons_zero, List.set_cons_succ]
                    refine wpAnyV_one (i := 20) (by kernel_rfl) (by kernel_rfl) (fun o ho K hK => ?_)
                    conv at ho => rhs; whnf
                    subst ho
                    refine step_appendW wy 38 32 elem_row rowE_len rowE_one (g90) (v90) ([] ++ ([] : List RowV).take 0 ++ [(⟨id, Ar, r.length, cr⟩ : RowV)]) (([] : List RowV).drop 0) (.tmp 90) (.tmp 96) (none) (0) (b') (o + 0 * 2) (0) q6 q7 rfl hq90 rfl rfl rfl rfl (hE90) (hO90) (slR_nil q10'.out (by unfold maxLen; omega)) (fun v97 w97 g97 hO97 hx97 hE97 hq97 => ?_)
                    generalize hl97 : [] ++ ([] : List RowV).take 0 ++ [(⟨id, Ar, r.length, cr⟩ : RowV)] ++ ([] : List RowV).drop 0 = rows97 at hO97
                    have hl97' := Lib.hid hl97
                    clear hl97
                    obtain ⟨A97, c97, b97, o97, rfl, hr97, hg97⟩ := hO97.read
                    try go_simp
                    refine hK.out _ _ (Or.inr (hE97.cell hc0y nb)) ?_
                    clear hK K
                    try simp only [Act.put, List.setIfInBounds_toArray, List.set_cons_zero, List.set_cons_succ]
                    have zc97 := hE97.cell hc0y nb
                    have zf97 := hE97.free hc0y hf0y nb
                    refine wpAnyV_one (i := 21) (by kernel_rfl) (by kernel_rfl) (fun o ho K hK => ?_)
                    conv at ho => rhs; whnf
                    subst ho
                    go_simp
                    refine hK.out _ _ (Or.inr (hE97.cell hc0y nb)) ?_
                    clear hK K
                    try simp only [Act.put, List.setIfInBounds_toArray, List.set_cons_zero, List.set_cons_succ]
                    refine wpAnyV_one (i := 22) (by kernel_rfl) (by kernel_rfl) (fun o ho K hK => ?_)
                    conv at ho => rhs; whnf
                    subst ho
                    go_simp
                    refine hK.out _ _ (Or.inr (hE97.cell hc0y nb)) ?_
                    clear hK K
                    try simp only [Act.put, List.setIfInBounds_toArray, List.set_cons_zero, List.set_cons_succ]
                    refine wpAnyV_one (i := 23) (by kernel_rfl) (by kernel_rfl) (fun o ho K hK => ?_)
                    conv at ho => rhs; whnf
                    subst ho
                    go_simp
                    refine hK.out _ _ (Or.inl rfl) ?_
                    clear hK K
                    try simp only [Act.put, List.setIfInBounds_toArray, List.set_cons_zero, List.set_cons_succ]
                    refine wpAnyV_done (by kernel_rfl) ?_ _
                    have hend := Lib.hid (refAdd_end h1 h4'.out h5 hxy hrr hgr hgrr hE97 0 hl97'.out hO97 hq97)
                    clear hO97 hr97 hg97 h5 h1 hc0 hc0y hf0 hf0y
                    go_wp2_with fail
                    go_ret2
                    exact refAdd_mk _ 0 _ rfl hres.out hend.out.1 hend.out.2
                · conv at ho => rhs; whnf
                  subst ho
                  go_simp
                  refine hK.out _ _ (Or.inr (Ext.cell ((Ext.refl NoB _).alloc _) hc0y nb)) ?_
                  clear hK K
                  try simp only [Act.put, List.setIfInBounds_toArray, List.set_cons_zero, List.set_cons_succ]
                  refine wpAnyV_one (i := 1) (by kernel_rfl) (by kernel_rfl) (fun o ho K hK => ?_)
                  conv at ho => rhs; whnf
                  subst ho
                  go_simp
                  refine hK.out _ _ (Or.inr (Ext.cell (((Ext.refl NoB _).alloc _).alloc _) hc0y nb)) ?_
                  clear hK K
                  try simp only [Act.put, List.setIfInBounds_toArray, List.set_cons_zero, List.set_cons_succ]
                  refine wpAnyV_one (i := 8) (by kernel_rfl) (by kernel_rfl) (fun o ho K hK => ?_)
                  conv at ho => rhs; whnf
                  subst ho
                  refine step_appendW wy 38 32 elem_row rowE_len rowE_one (some (wy.heap.size + 1)) (.slice (some ⟨wy.heap.size + 1, 0, none⟩) 0 0) ([]) (([] : List RowV).take 0) (.tmp 78) (.tmp 84) (none) (0) (b') (o) (0) q1'.out q2 q3'.out (ne_own (by omega)) rfl rfl rfl rfl (((Ext.refl NoB wy).drew.alloc _).alloc _) (SlO.made (b := wy.heap.size + 1) (xs := ([] : List RowV)) (cs := #[]) (alloc_at' _ _ _ (by simp)) rfl rowE_len (Nat.zero_le _)) ((SlR.keep hrowsy (((Ext.refl NoB wy).drew.alloc _).alloc _) nb1).take rowE_len htr) (fun v85 w85 g85 hO85 hx85 hE85 hq85 => ?_)
                  try go_simp
                  refine hK.out _ _ (Or.inr (hE85.cell hc0y nb)) ?_
                  clear hK K
                  try simp only [Act.put, List.setIfInBounds_toArray, List.set_cons_zero, List.set_cons_succ]
                  refine wpAnyV_one (i := 13) (by kernel_rfl) (by kernel_rfl) (fun o ho K hK => ?_)
                  conv at ho => rhs; whnf
                  subst ho
                  refine step_appendW wy 38 32 elem_row rowE_len rowE_one (g85) (v85) ([] ++ ([] : List RowV).take 0) ([(⟨id, Ar, r.length, cr⟩ : RowV)]) (.tmp 85) (.tmp 89) (some ⟨wy.heap.size, 0, none⟩) (1) (wy.heap.size) (0) (1) q4 q5 rfl hq85 rfl rfl rfl rfl (hE85) (hO85) (SlR.one' (E := 63) (fr := (0, 0)) (cs := #[.int .i64 id, .slice Ar r.length cr]) (hx85.keep (((Ext.refl NoB _).alloc _).keep (alloc_at wy.drew _) nb) (some_ne (by omega))) rfl) (fun v90 w90 g90 hO90 hx90 hE90 hq90 => ?_)
                  try go_simp
                  refine hK.out _ _ (Or.inr (hE90.cell hc0y nb)) ?_
                  clear hK K
                  try simp only [Act.put, List.setIfInBounds_toArray, List.set_cons_zero, List.set_cons_succ]
                  refine wpAnyV_one (i := 20) (by kernel_rfl) (by kernel_rfl) (fun o ho K hK => ?_)
                  conv at ho => rhs; whnf
                  subst ho
                  refine step_appendW wy 38 32 elem_row rowE_len rowE_one (g90) (v90) ([] ++ ([] : List RowV).take 0 ++ [(⟨id, Ar, r.length, cr⟩ : RowV)]) (([] : List RowV).drop 0) (.tmp 90) (.tmp 96) (none) (0) (b') (o + 0 * 2) (0) q6 q7 rfl hq90 rfl rfl rfl rfl (hE90) (hO90) (slR_nil q10'.out (by unfold maxLen; omega)) (fun v97 w97 g97 hO97 hx97 hE97 hq97 => ?_)
                  generalize hl97 : [] ++ ([] : List RowV).take 0 ++ [(⟨id, Ar, r.length, cr⟩ : RowV)] ++ ([] : List RowV).drop 0 = rows97 at hO97
                  have hl97' := Lib.hid hl97
                  clear hl97
                  obtain ⟨A97, c97, b97, o97, rfl, hr97, hg97⟩ := hO97.read
                  try go_simp
                  refine hK.out _ _ (Or.inr (hE97.cell hc0y nb)) ?_
                  clear hK K
                  try simp only [Act.put, List.setIfInBounds_toArray, List.set_cons_zero, List.set_cons_succ]
                  have zc97 := hE97.cell hc0y nb
                  have zf97 := hE97.free hc0y hf0y nb
                  refine wpAnyV_one (i := 21) (by kernel_rfl) (by kernel_rfl) (fun o ho K hK => ?_)
                  conv at ho => rhs; whnf
                  subst ho
                  go_simp
                  refine hK.out _ _ (Or.inr (hE97.cell hc0y nb)) ?_
                  clear hK K
                  try simp only [Act.put, List.setIfInBounds_toArray, List.set_cons_zero, List.set_cons_succ]
                  refine wpAnyV_one (i := 22) (by kernel_rfl) (by kernel_rfl) (fun o ho K hK => ?_)
                  conv at ho => rhs; whnf
                  subst ho
                  go_simp
                  refine hK.out _ _ (Or.inr (hE97.cell hc0y nb)) ?_
                  clear hK K
                  try simp only [Act.put, List.setIfInBounds_toArray, List.set_cons_zero, List.set_cons_succ]
                  refine wpAnyV_one (i := 23) (by kernel_rfl) (by kernel_rfl) (fun o ho K hK => ?_)
                  conv at ho => rhs; whnf
                  subst ho
                  go_simp
                  refine hK.out _ _ (Or.inl rfl) ?_
                  clear hK K
                  try simp only [Act.put, List.setIfInBounds_toArray, List.set_cons_zero, List.set_cons_succ]
                  refine wpAnyV_done (by kernel_rfl) ?_ _
                  have hend := Lib.hid (refAdd_end h1 h4'.out h5 hxy hrr hgr hgrr hE97 0 hl97'.out hO97 hq97)
                  clear hO97 hr97 hg97 h5 h1 hc0 hc0y hf0 hf0y
                  go_wp2_with fail
                  go_ret2
                  exact refAdd_mk _ 0 _ rfl hres.out hend.out.1 hend.out.2
            · by_cases hcc : c = t
              · obtain rfl : t = c := hcc.symm
                go_wp2_with fail
                with_reducible refine (rising_calls A0 c0 pb po ps w hx hps).mono ?_
                rintro e wy ⟨vr, gr, r, rfl, hOr, hsr, hlr, hgr, hxy⟩
                obtain ⟨Ar, cr, br, orr, rfl, hrr, hgrr⟩ := hOr.read
                by_cases hr0 : r = []
                · have hd5 : decide (0 < r.length) = false := by simp [hr0]
                  have hres : Hid (AddRes L id ps r.length 0 L) := .inr ⟨hok.out, .inr ⟨hnone.out, rfl, r, hsr, rfl, .inl ⟨hr0, rfl⟩⟩⟩
                  have hRy := hR0.keep hxy (fun _ _ _ => nb)
                  clear hr0
                  go_wp2_with fail
                  go_ret2
                  exact refAdd_mk _ 0 L rfl hres.out hRy (hxy.mono (fun _ _ h => h.elim))
                · have hd5 : decide (0 < r.length) = true := by simp; exact List.length_pos_iff.2 hr0
                  have hins : AddIns L id r ([] ++ L.take t ++ [(id, r)] ++ L.drop t) := ⟨t, ht, hlow.out, hhi'.out, rfl⟩
                  have hres : Hid (AddRes L id ps r.length 0 ([] ++ L.take t ++ [(id, r)] ++ L.drop t)) := .inr ⟨hok.out, .inr ⟨hnone.out, rfl, r, hsr, rfl, .inr ⟨hr0, hins⟩⟩⟩
                  clear hins hr0
                  go_wp2_with fail
                  have hc0y : wy.cell? ⟨b, 0, none⟩ = some (.slice (some ⟨b2, o2, none⟩) L.length t) := hxy.cell hc0 nb
                  have hf0y := hxy.free hc0 hf0 nb
                  have hrowsy := h2.keep hxy nb1
                  have hby := hxy.lt hbw
                  have htr : t ≤ rows.length := by omega
                  have hti : (t : Int) ≤ (t : Int) := by omega
                  have htn : t ≤ t := by omega
                  have hct : t = t := rfl
                  have q1 : (([] : List RowV).length + (rows.take t).length) * 32 ≤ 140737488355328 := by rw [List.length_take, List.length_nil]; omega
                  have q2 : ([] : List RowV).length + (rows.take t).length ≤ maxLen := by rw [List.length_take, List.length_nil]; unfold maxLen; omega
                  have q3 : t = (rows.take t).length := by rw [List.length_take]; omega
                  have q4 : (([] ++ rows.take t).length + [(⟨id, Ar, r.length, cr⟩ : RowV)].length) * 32 ≤ 140737488355328 := by simp; omega
                  have q5 : ([] ++ rows.take t).length + [(⟨id, Ar, r.length, cr⟩ : RowV)].length ≤ maxLen := by unfold maxLen; simp; omega
                  have q6 : (([] ++ rows.take t ++ [(⟨id, Ar, r.length, cr⟩ : RowV)]).length + (rows.drop t).length) * 32 ≤ 140737488355328 := by simp; omega
                  have q7 : ([] ++ rows.take t ++ [(⟨id, Ar, r.length, cr⟩ : RowV)]).length + (rows.drop t).length ≤ maxLen := by unfold maxLen; simp; omega
                  have q8 : L.length - t = (rows.drop t).length := by rw [List.length_drop]; omega
                  have q1' := Lib.hid q1
                  have q3' := Lib.hid q3
                  have q8' := Lib.hid q8
                  have q10' : Hid (rows.drop t = []) := List.eq_nil_of_length_eq_zero (by rw [List.length_drop]; have := hte'.out; omega)
                  have q9' : Hid (0 = (rows.drop t).length) := by show _ = _; rw [q10'.out]; rfl
                  have h4' := Lib.hid h4
                  clear h4 q1 q3 q8
                  refine wp_region_V 23 (fun w' => w'.cell? ⟨b, 0, none⟩ = some (.slice (some ⟨b2, o2, none⟩) L.length t)) (by kernel_rfl) ?_
                  try simp only [Act.put, List.setIfInBounds_toArray, List.set_cons_zero, List.set_cons_succ]
                  refine wpAnyV_take (i := 0) (by kernel_rfl) (by kernel_rfl) (by kernel_rfl) (by kernel_rfl) (by kernel_rfl) hc0y (fun o ho => ?_)
                  conv at ho => rhs; whnf
                  subst ho
                  refine ⟨?_, fun _ _ _ h => h, Or.inl ⟨by rfl, ?_⟩, ?_⟩
                  rotate_left
                  · intro w hSw
                    try dsimp only at hSw
                    first | (go_simp; done) | (go_simp; with_reducible rfl)
                  try simp only [Act.put, List.setIfInBounds_toArray, List.set_cons_zero, List.set_cons_succ]
                  refine wpAnyV_take (i := 2) (by kernel_rfl) (by kernel_rfl) (by kernel_rfl) (by kernel_rfl) (by kernel_rfl) hc0y (fun o ho => ?_)
                  conv at ho => rhs; whnf
                  subst ho
                  refine ⟨?_, fun _ _ _ h => h, Or.inl ⟨by rfl, ?_⟩, ?_⟩
                  rotate_left
                  · intro w hSw
                    try dsimp only at hSw
                    first | (go_simp; done) | (go_simp; with_reducible rfl)
                  try simp only [Act.put, List.setIfInBounds_toArray, List.set_cons_zero, List.set_cons_succ]
                  refine wpAnyV_take (i := 3) (by kernel_rfl) (by kernel_rfl) (by kernel_rfl) (by kernel_rfl) (by kernel_rfl) hc0y (fun o ho => ?_)
                  conv at ho => rhs; whnf
                  subst ho
                  refine ⟨?_, fun _ _ _ h => h, Or.inl ⟨by rfl, ?_⟩, ?_⟩
                  rotate_left
                  · intro w hSw
                    try dsimp only at hSw
                    first | (go_simp; done) | (go_simp; with_reducible rfl)
                  try simp only [Act.put, List.setIfInBounds_toArray, List.set_cons_zero, List.set_cons_succ]
                  refine wpAnyV_take (i := 4) (by kernel_rfl) (by kernel_rfl) (by kernel_rfl) (by kernel_rfl) (by kernel_rfl) hc0y (fun o ho => ?_)
                  conv at ho => rhs; whnf
                  subst ho
                  refine ⟨?_, fun _ _ _ h => h, Or.inl ⟨by rfl, ?_⟩, ?_⟩
                  rotate_left
                  · intro w hSw
                    try dsimp only at hSw
                    first | (go_simp; done) | (go_simp; with_reducible rfl)
                  try simp only [Act.put, List.setIfInBounds_toArray, List.set_cons_zero, List.set_cons_succ]
                  refine wpAnyV_take (i := 5) (by kernel_rfl) (by kernel_rfl) (by kernel_rfl) (by kernel_rfl) (by kernel_rfl) hc0y (fun o ho => ?_)
                  conv at ho => rhs; whnf
                  subst ho
                  refine ⟨?_, fun _ _ _ h => h, Or.inl ⟨by rfl, ?_⟩, ?_⟩
                  rotate_left
                  · intro w hSw
                    try dsimp only at hSw
                    first | (go_simp; done) | (go_simp; with_reducible rfl)
                  try simp only [Act.put, List.setIfInBounds_toArray, List.set_cons_zero, List.set_cons_succ]
                  refine wpAnyV_take (i := 6) (by kernel_rfl) (by kernel_rfl) (by kernel_rfl) (by kernel_rfl) (by kernel_rfl) hc0y (fun o ho => ?_)
                  conv at ho => rhs; whnf
                  subst ho
                  refine ⟨?_, fun _ _ _ h => h, Or.inl ⟨by rfl, ?_⟩, ?_⟩
                  rotate_left
                  · intro w hSw
                    try dsimp only at hSw
                    first | (go_simp; done) | (go_simp; with_reducible rfl)
                  try simp only [Act.put, List.setIfInBounds_toArray, List.set_cons_zero, List.set_cons_succ]
                  refine wpAnyV_take (i := 7) (by kernel_rfl) (by kernel_rfl) (by kernel_rfl) (by kernel_rfl) (by kernel_rfl) hc0y (fun o ho => ?_)
                  conv at ho => rhs; whnf
                  subst ho
                  refine ⟨?_, fun _ _ _ h => h, Or.inl ⟨by rfl, ?_⟩, ?_⟩
                  rotate_left
                  · intro w hSw
                    try dsimp only at hSw
                    first | (go_simp; done) | (go_simp; with_reducible rfl)
                  try simp only [Act.put, List.setIfInBounds_toArray, List.set_cons_zero, List.set_cons_succ]
                  refine wpAnyV_take (i := 9) (by kernel_rfl) (by kernel_rfl) (by kernel_rfl) (by kernel_rfl) (by kernel_rfl) hc0y (fun o ho => ?_)
                  conv at ho => rhs; whnf
                  subst ho
                  refine ⟨?_, fun _ _ _ h => h, Or.inl ⟨by rfl, ?_⟩, ?_⟩
                  rotate_left
                  · intro w hSw
                    try dsimp only at hSw
                    first | (go_simp; done) | (go_simp; with_reducible rfl)
                  try simp only [Act.put, List.setIfInBounds_toArray, List.set_cons_zero, List.set_cons_succ]
                  refine wpAnyV_take (i := 10) (by kernel_rfl) (by kernel_rfl) (by kernel_rfl) (by kernel_rfl) (by kernel_rfl) hc0y (fun o ho => ?_)
                  conv at ho => rhs; whnf
                  subst ho
                  refine ⟨?_, fun _ _ _ h => h, Or.inl ⟨by rfl, ?_⟩, ?_⟩
                  rotate_left
                  · intro w hSw
                    try dsimp only at hSw
                    first | (go_simp; done) | (go_simp; with_reducible rfl)
                  try simp only [Act.put, List.setIfInBounds_toArray, List.set_cons_zero, List.set_cons_succ]
                  refine wpAnyV_take (i := 11) (by kernel_rfl) (by kernel_rfl) (by kernel_rfl) (by kernel_rfl) (by kernel_rfl) hc0y (fun o ho => ?_)
                  conv at ho => rhs; whnf
                  subst ho
                  refine ⟨?_, fun _ _ _ h => h, Or.inl ⟨by rfl, ?_⟩, ?_⟩
                  rotate_left
                  · intro w hSw
                    try dsimp only at hSw
                    first | (go_simp; done) | (go_simp; with_reducible rfl)
                  try simp only [Act.put, List.setIfInBounds_toArray, List.set_cons_zero, List.set_cons_succ]
                  refine wpAnyV_take (i := 14) (by kernel_rfl) (by kernel_rfl) (by kernel_rfl) (by kernel_rfl) (by kernel_rfl) hc0y (fun o ho => ?_)
                  conv at ho => rhs; whnf
                  subst ho
                  refine ⟨?_, fun _ _ _ h => h, Or.inl ⟨by rfl, ?_⟩, ?_⟩
                  rotate_left
                  · intro w hSw
                    try dsimp only at hSw
                    first | (go_simp; done) | (go_simp; with_reducible rfl)
                  try simp only [Act.put, List.setIfInBounds_toArray, List.set_cons_zero, List.set_cons_succ]
                  refine wpAnyV_take (i := 15) (by kernel_rfl) (by kernel_rfl) (by kernel_rfl) (by kernel_rfl) (by kernel_rfl) hc0y (fun o ho => ?_)
                  conv at ho => rhs; whnf
                  subst ho
                  refine ⟨?_, fun _ _ _ h => h, Or.inl ⟨by rfl, ?_⟩, ?_⟩
                  rotate_left
                  · intro w hSw
                    try dsimp only at hSw
                    first | (go_simp; done) | (go_simp; with_reducible rfl)
                  try simp only [Act.put, List.setIfInBounds_toArray, List.set_cons_zero, List.set_cons_succ]
                  refine wpAnyV_take (i := 16) (by kernel_rfl) (by kernel_rfl) (by kernel_rfl) (by kernel_rfl) (by kernel_rfl) hc0y (fun o ho => ?_)
                  conv at ho => rhs; whnf
                  subst ho
                  refine ⟨?_, fun _ _ _ h => h, Or.inl ⟨by rfl, ?_⟩, ?_⟩
                  rotate_left
                  · intro w hSw
                    try dsimp only at hSw
                    first | (go_simp; done) | (go_simp; with_reducible rfl)
                  try simp only [Act.put, List.setIfInBounds_toArray, List.set_cons_zero, List.set_cons_succ]
                  refine wpAnyV_take (i := 17) (by kernel_rfl) (by kernel_rfl) (by kernel_rfl) (by kernel_rfl) (by kernel_rfl) hc0y (fun o ho => ?_)
                  conv at ho => rhs; whnf
                  subst ho
                  refine ⟨?_, fun _ _ _ h => h, Or.inl ⟨by rfl, ?_⟩, ?_⟩
                  rotate_left
                  · intro w hSw
                    try dsimp only at hSw
                    first | (go_simp; done) | (go_simp; with_reducible rfl)
                  try simp only [Act.put, List.setIfInBounds_toArray, List.set_cons_zero, List.set_cons_succ]
                  refine wpAnyV_take (i := 18) (by kernel_rfl) (by kernel_rfl) (by kernel_rfl) (by kernel_rfl) (by kernel_rfl) hc0y (fun o ho => ?_)
                  conv at ho => rhs; whnf
                  subst ho
                  refine ⟨?_, fun _ _ _ h => h, Or.inl ⟨by rfl, ?_⟩, ?_⟩
                  rotate_left
                  · intro w hSw
                    try dsimp only at hSw
                    first | (go_simp; done) | (go_simp; with_reducible rfl)
                  try simp only [Act.put, List.setIfInBounds_toArray, List.set_cons_zero, List.set_cons_succ]
                  refine wpAnyV_take (i := 19) (by kernel_rfl) (by kernel_rfl) (by kernel_rfl) (by kernel_rfl) (by kernel_rfl) hc0y (fun o ho => ?_)
                  conv at ho => rhs; whnf
                  subst ho
                  refine ⟨?_, fun _ _ _ h => h, Or.inl ⟨by rfl, ?_⟩, ?_⟩
                  rotate_left
                  · intro w hSw
                    try dsimp only at hSw
                    first | (go_simp; done) | (go_simp; with_reducible rfl)
                  try simp only [Act.put, List.setIfInBounds_toArray, List.set_cons_zero, List.set_cons_succ]
                  refine wpAnyV_two (i := 1) (j := 12) (by kernel_rfl) (by kernel_rfl) (by kernel_rfl) (fun o ho K hK => ?_) (fun o ho K hK => ?_)
                  · conv at ho => rhs; whnf
                    subst ho
                    go_simp
                    refine hK.out _ _ (Or.inr (Ext.cell ((Ext.refl NoB _).alloc _) hc0y nb)) ?_
                    clear hK K
                    try simp only [Act.put, List.setIfInBounds_toArray, List.set_cons_zero, List.set_cons_succ]
                    refine wpAnyV_two (i := 8) (j := 12) (by kernel_rfl) (by kernel_rfl) (by kernel_rfl) (fun o ho K hK => ?_) (fun o ho K hK => ?_)
                    · conv at ho => rhs; whnf
                      subst ho
                      refine step_appendW wy 38 32 elem_row rowE_len rowE_one (some (wy.heap.size)) (.slice (some ⟨wy.heap.size, 0, none⟩) 0 0) ([]) (rows.take t) (.tmp 78) (.tmp 84) (some ⟨b2, o2, none⟩) (t) (b') (o) (t) q1'.out q2 q3'.out (ne_own (by omega)) rfl rfl rfl rfl ((Ext.refl NoB wy).drew.alloc _) (SlO.made (b := wy.heap.size) (xs := ([] : List RowV)) (cs := #[]) (alloc_at wy.drew _) rfl rowE_len (Nat.zero_le _)) ((SlR.keep hrowsy ((Ext.refl NoB wy).drew.alloc _) nb1).take rowE_len htr) (fun v85 w85 g85 hO85 hx85 hE85 hq85 => ?_)
                      try go_simp
                      refine hK.out _ _ (Or.inr (hE85.cell hc0y nb)) ?_
                      clear hK K
                      try simp only [Act.put, List.setIfInBounds_toArray, List.set_cons_zero, List.set_cons_succ]
                      refine wpAnyV_one (i := 12) (by kernel_rfl) (by kernel_rfl) (fun o ho K hK => ?_)
                      conv at ho => rhs; whnf
                      subst ho
                      go_simp
                      refine hK.out _ _ (Or.inr (Ext.cell ((Ext.refl NoB _).alloc _) (hE85.cell hc0y nb) nb)) ?_
                      clear hK K
                      try simp only [Act.put, List.setIfInBounds_toArray, List.set_cons_zero, List.set_cons_succ]
                      refine wpAnyV_one (i := 13) (by kernel_rfl) (by kernel_rfl) (fun o ho K hK => ?_)
                      conv at ho => rhs; whnf
                      subst ho
                      refine step_appendW wy 38 32 elem_row rowE_len rowE_one (g85) (v85) ([] ++ rows.take t) ([(⟨id, Ar, r.length, cr⟩ : RowV)]) (.tmp 85) (.tmp 89) (some ⟨w85.heap.size, 0, none⟩) (1) (w85.heap.size) (0) (1) q4 q5 rfl hq85 rfl rfl rfl rfl (hE85.alloc _) (hO85.keep (F := NoB) ((Ext.refl NoB w85).alloc _) (fun _ _ => nb)) (SlR.one' (E := 63) (fr := (0, 0)) (cs := #[.int .i64 id, .slice Ar r.length cr]) (alloc_at w85 _) rfl) (fun v90 w90 g90 hO90 hx90 hE90 hq90 => ?_)
                      try go_simp
                      refine hK.out _ _ (Or.inr (hE90.cell hc0y nb)) ?_
                      clear hK K
                      try simp only [Act.put, List.setIfInBounds_toArray, List.set_cons_zero, List.set_cons_succ]
                      refine wpAnyV_one (i := 20) (by kernel_rfl) (by kernel_rfl) (fun o ho K hK => ?_)
                      conv at ho => rhs; whnf
                      subst ho
                      refine step_appendW wy 38 32 elem_row rowE_len rowE_one (g90) (v90) ([] ++ rows.take t ++ [(⟨id, Ar, r.length, cr⟩ : RowV)]) (rows.drop t) (.tmp 90) (.tmp 96) (some ⟨b2, o2, none⟩) (0) (b') (o + t * 2) (0) q6 q7 q9'.out hq90 rfl rfl rfl rfl (hE90) (hO90) (slR_nil q10'.out (by unfold maxLen; omega)) (fun v97 w97 g97 hO97 hx97 hE97 hq97 => ?_)
                      generalize hl97 : [] ++ rows.take t ++ [(⟨id, Ar, r.length, cr⟩ : RowV)] ++ rows.drop t = rows97 at hO97
                      have hl97' := Lib.hid hl97
                      clear hl97
                      obtain ⟨A97, c97, b97, o97, rfl, hr97, hg97⟩ := hO97.read
                      try go_simp
                      refine hK.out _ _ (Or.inr (hE97.cell hc0y nb)) ?_
                      clear hK K
                      try simp only [Act.put, List.setIfInBounds_toArray, List.set_cons_zero, List.set_cons_succ]
                      have zc97 := hE97.cell hc0y nb
                      have zf97 := hE97.free hc0y hf0y nb
                      refine wpAnyV_one (i := 21) (by kernel_rfl) (by kernel_rfl) (fun o ho K hK => ?_)
                      conv at ho => rhs; whnf
                      subst ho
                      go_simp
                      refine hK.out _ _ (Or.inr (hE97.cell hc0y nb)) ?_
                      clear hK K
                      try simp only [Act.put, List.setIfInBounds_toArray, List.set_cons_zero, List.set_cons_succ]
                      refine wpAnyV_one (i := 22) (by kernel_rfl) (by kernel_rfl) (fun o ho K hK => ?_)
                      conv at ho => rhs; whnf
                      subst ho
                      go_simp
                      refine hK.out _ _ (Or.inr (hE97.cell hc0y nb)) ?_
                      clear hK K
                      try simp only [Act.put, List.setIfInBounds_toArray, List.set_cons_zero, List.set_cons_succ]
                      refine wpAnyV_one (i := 23) (by kernel_rfl) (by kernel_rfl) (fun o ho K hK => ?_)
                      conv at ho => rhs; whnf
                      subst ho
                      go_simp
                      refine hK.out _ _ (Or.inl rfl) ?_
                      clear hK K
                      try simp only [Act.put, List.setIfInBounds_toArray, List.set_cons_zero, List.set_cons_succ]
                      refine wpAnyV_done (by kernel_rfl) ?_ _
                      have hend := Lib.hid (refAdd_end h1 h4'.out h5 hxy hrr hgr hgrr hE97 t hl97'.out hO97 hq97)
                      clear hO97 hr97 hg97 h5 h1 hc0 hc0y hf0 hf0y
                      go_wp2_with fail
                      go_ret2
                      exact refAdd_mk _ 0 _ rfl hres.out hend.out.1 hend.out.2
                    · conv at ho => rhs; whnf
                      subst ho
                      go_simp
                      refine hK.out _ _ (Or.inr (Ext.cell (((Ext.refl NoB _).alloc _).alloc _) hc0y nb)) ?_
                      clear hK K
                      try simp only [Act.put, List.setIfInBounds_toArray, List.set_cons_zero, List.set_cons_succ]
                      refine wpAnyV_one (i := 8) (by kernel_rfl) (by kernel_rfl) (fun o ho K hK => ?_)
                      conv at ho => rhs; whnf
                      subst ho
                      refine step_appendW wy 38 32 elem_row rowE_len rowE_one (some (wy.heap.size)) (.slice (some ⟨wy.heap.size, 0, none⟩) 0 0) ([]) (rows.take t) (.tmp 78) (.tmp 84) (some ⟨b2, o2, none⟩) (t) (b') (o) (t) q1'.out q2 q3'.out (ne_own (by omega)) rfl rfl rfl rfl (((Ext.refl NoB wy).drew.alloc _).alloc _) (SlO.made (b := wy.heap.size) (xs := ([] : List RowV)) (cs := #[]) (((Ext.refl NoB _).alloc _).keep (alloc_at wy.drew _) nb) rfl rowE_len (Nat.zero_le _)) ((SlR.keep hrowsy (((Ext.refl NoB wy).drew.alloc _).alloc _) nb1).take rowE_len htr) (fun v85 w85 g85 hO85 hx85 hE85 hq85 => ?_)
                      try go_simp
                      refine hK.out _ _ (Or.inr (hE85.cell hc0y nb)) ?_
                      clear hK K
                      try simp only [Act.put, List.setIfInBounds_toArray, List.set_cons_zero, List.set_cons_succ]
                      refine wpAnyV_one (i := 13) (by kernel_rfl) (by kernel_rfl) (fun o ho K hK => ?_)
                      conv at ho => rhs; whnf
                      subst ho
                      refine step_appendW wy 38 32 elem_row rowE_len rowE_one (g85) (v85) ([] ++ rows.take t) ([(⟨id, Ar, r.length, cr⟩ : RowV)]) (.tmp 85) (.tmp 89) (some ⟨wy.heap.size + 1, 0, none⟩) (1) (wy.heap.size + 1) (0) (1) q4 q5 rfl hq85 rfl rfl rfl rfl (hE85) (hO85) (SlR.one' (E := 63) (fr := (0, 0)) (cs := #[.int .i64 id, .slice Ar r.length cr]) (hx85.keep (alloc_at' _ _ _ (by simp)) (some_ne (by omega))) rfl) (fun v90 w90 g90 hO90 hx90 hE90 hq90 => ?_)
                      try go_simp
                      refine hK.out _ _ (Or.inr (hE90.cell hc0y nb)) ?_
                      clear hK K
                      try simp only [Act.put, List.setIfInBounds_toArray, List.set_cons_zero, List.set_cons_succ]
                      refine wpAnyV_one (i := 20) (by kernel_rfl) (by kernel_rfl) (fun o ho K hK => ?_)
                      conv at ho => rhs; whnf
                      subst ho
                      refine step_appendW wy 38 32 elem_row rowE_len rowE_one (g90) (v90) ([] ++ rows.take t ++ [(⟨id, Ar, r.length, cr⟩ : RowV)]) (rows.drop t) (.tmp 90) (.tmp 96) (some ⟨b2, o2, none⟩) (0) (b') (o + t * 2) (0) q6 q7 q9'.out hq90 rfl rfl rfl rfl (hE90) (hO90) (slR_nil q10'.out (by unfold maxLen; omega)) (fun v97 w97 g97 hO97 hx97 hE97 hq97 => ?_)
                      generalize hl97 : [] ++ rows.take t ++ [(⟨id, Ar, r.length, cr⟩ : RowV)] ++ rows.drop t = rows97 at hO97
                      have hl97' := Lib.hid hl97
                      clear hl97
                      obtain ⟨A97, c97, b97, o97, rfl, hr97, hg97⟩ := hO97.read
                      try go_simp
                      refine hK.out _ _ (Or.inr (hE97.cell hc0y nb)) ?_
                      clear hK K
                      try simp only [Act.put, List.setIfInBounds_toArray, List.set_cons_zero, List.set_cons_succ]
                      have zc97 := hE97.cell hc0y nb
                      have zf97 := hE97.free hc0y hf0y nb
                      refine wpAnyV_one (i := 21) (by kernel_rfl) (by kernel_rfl) (fun o ho K hK => ?_)
                      conv at ho => rhs; whnf
                      subst ho
                      go_simp
                      refine hK.out _ _ (Or.inr (hE97.cell hc0y nb)) ?_
                      clear hK K
                      try simp only [Act.put, List.setIfInBounds_toArray, List.set_cons_zero, List.set_cons_succ]
                      refine wpAnyV_one (i := 22) (by kernel_rfl) (by kernel_rfl) (fun o ho K hK => ?_)
                      conv at ho => rhs; whnf
                      subst ho
                      go_simp
                      refine hK.out _ _ (Or.inr (hE97.cell hc0y nb)) ?_
                      clear hK K
                      try simp only [Act.put, List.setIfInBounds_toArray, List.set_cons_zero, List.set_cons_succ]
                      refine wpAnyV_one (i := 23) (by kernel_rfl) (by kernel_rfl) (fun o ho K hK => ?_)
                      conv at ho => rhs; whnf
                      subst ho
                      go_simp
                      refine hK.out _ _ (Or.inl rfl) ?_
                      clear hK K
                      try simp only [Act.put, List.setIfInBounds_toArray, List.set_cons_zero, List.set_cons_succ]
                      refine wpAnyV_done (by kernel_rfl) ?_ _
                      have hend := Lib.hid (refAdd_end h1 h4'.out h5 hxy hrr hgr hgrr hE97 t hl97'.out hO97 hq97)
                      clear hO97 hr97 hg97 h5 h1 hc0 hc0y hf0 hf0y
                      go_wp2_with fail
                      go_ret2
                      exact refAdd_mk _ 0 _ rfl hres.out hend.out.1 hend.out.2
                  · conv at ho => rhs; whnf
                    subst ho
                    go_simp
                    refine hK.out _ _ (Or.inr (Ext.cell ((Ext.refl NoB _).alloc _) hc0y nb)) ?_
                    clear hK K
                    try simp only [Act.put, List.setIfInBounds_toArray, List.set_cons_zero, List.set_cons_succ]
                    refine wpAnyV_one (i := 1) (by kernel_rfl) (by kernel_rfl) (fun o ho K hK => ?_)
                    conv at ho => rhs; whnf
                    subst ho
                    go_simp
                    refine hK.out _ _ (Or.inr (Ext.cell (((Ext.refl NoB _).alloc _).alloc _) hc0y nb)) ?_
                    clear hK K
                    try simp only [Act.put, List.setIfInBounds_toArray, List.set_cons_zero, List.set_cons_succ]
                    refine wpAnyV_one (i := 8) (by kernel_rfl) (by kernel_rfl) (fun o ho K hK => ?_)
                    conv at ho => rhs; whnf
                    subst ho
                    refine step_appendW wy 38 32 elem_row rowE_len rowE_one (some (wy.heap.size + 1)) (.slice (some ⟨wy.heap.size + 1, 0, none⟩) 0 0) ([]) (rows.take t) (.tmp 78) (.tmp 84) (some ⟨b2, o2, none⟩) (t) (b') (o) (t) q1'.out q2 q3'.out (ne_own (by omega)) rfl rfl rfl rfl (((Ext.refl NoB wy).drew.alloc _).alloc _) (SlO.made (b := wy.heap.size + 1) (xs := ([] : List RowV)) (cs := #[]) (alloc_at' _ _ _ (by simp)) rfl rowE_len (Nat.zero_le _)) ((SlR.keep hrowsy (((Ext.refl NoB wy).drew.alloc _).alloc _) nb1).take rowE_len htr) (fun v85 w85 g85 hO85 hx85 hE85 hq85 => ?_)
                    try go_simp
                    refine hK.out _ _ (Or.inr (hE85.cell hc0y nb)) ?_
                    clear hK K
                    try simp only [Act.put, List.setIfInBounds_toArray, List.set_cons_zero, List.set_cons_succ]
                    refine wpAnyV_one (i := 13) (by kernel_rfl) (by kernel_rfl) (fun o ho K hK => ?_)
                    conv at ho => rhs; whnf
                    subst ho
                    refine step_appendW wy 38 32 elem_row rowE_len rowE_one (g85) (v85) ([] ++ rows.take t) ([(⟨id, Ar, r.length, cr⟩ : RowV)]) (.tmp 85) (.tmp 89) (some ⟨wy.heap.size, 0, none⟩) (1) (wy.heap.size) (0) (1) q4 q5 rfl hq85 rfl rfl rfl rfl (hE85) (hO85) (SlR.one' (E := 63) (fr := (0, 0)) (cs := #[.int .i64 id, .slice Ar r.length cr]) (hx85.keep (((Ext.refl NoB _).alloc _).keep (alloc_at wy.drew _) nb) (some_ne (by omega))) rfl) (fun v90 w90 g90 hO90 hx90 hE90 hq90 => ?_)
                    try go_simp
                    refine hK.out _ _ (Or.inr (hE90.cell hc0y nb)) ?_
                    clear hK K
                    try simp only [Act.put, List.setIfInBounds_toArray, List.set_cons_zero, List.set_cons_succ]
                    refine wpAnyV_one (i := 20) (by kernel_rfl) (by kernel_rfl) (fun o ho K hK => ?_)
                    conv at ho => rhs; whnf
                    subst ho
                    refine step_appendW wy 38 32 elem_row rowE_len rowE_one (g90) (v90) ([] ++ rows.take t ++ [(⟨id, Ar, r.length, cr⟩ : RowV)]) (rows.drop t) (.tmp 90) (.tmp 96) (some ⟨b2, o2, none⟩) (0) (b') (o + t * 2) (0) q6 q7 q9'.out hq90 rfl rfl rfl rfl (hE90) (hO90) (slR_nil q10'.out (by unfold maxLen; omega)) (fun v97 w97 g97 hO97 hx97 hE97 hq97 => ?_)
                    generalize hl97 : [] ++ rows.take t ++ [(⟨id, Ar, r.length, cr⟩ : RowV)] ++ rows.drop t = rows97 at hO97
                    have hl97' := Lib.hid hl97
                    clear hl97
                    obtain ⟨A97, c97, b97, o97, rfl, hr97, hg97⟩ := hO97.read
                    try go_simp
                    refine hK.out _ _ (Or.inr (hE97.cell hc0y nb)) ?_
                    clear hK K
                    try simp only [Act.put, List.setIfInBounds_toArray, List.set_cons_zero, List.set_cons_succ]
                    have zc97 := hE97.cell hc0y nb
                    have zf97 := hE97.free hc0y hf0y nb
                    refine wpAnyV_one (i := 21) (by kernel_rfl) (by kernel_rfl) (fun o ho K hK => ?_)
                    conv at ho => rhs; whnf
                    subst ho
                    go_simp
                    refine hK.out _ _ (Or.inr (hE97.cell hc0y nb)) ?_
                    clear hK K
                    try simp only [Act.put, List.setIfInBounds_toArray, List.set_cons_zero, List.set_cons_succ]
                    refine wpAnyV_one (i := 22) (by kernel_rfl) (by kernel_rfl) (fun o ho K hK => ?_)
                    conv at ho => rhs; whnf
                    subst ho
                    go_simp
                    refine hK.out _ _ (Or.inr (hE97.cell hc0y nb)) ?_
                    clear hK K
                    try simp only [Act.put, List.setIfInBounds_toArray, List.set_cons_zero, List.set_cons_succ]
                    refine wpAnyV_one (i := 23) (by kernel_rfl) (by kernel_rfl) (fun o ho K hK => ?_)
                    conv at ho => rhs; whnf
                    subst ho
                    go_simp
                    refine hK.out _ _ (Or.inl rfl) ?_
                    clear hK K
                    try simp only [Act.put, List.setIfInBounds_toArray, List.set_cons_zero, List.set_cons_succ]
                    refine wpAnyV_done (by kernel_rfl) ?_ _
                    have hend := Lib.hid (refAdd_end h1 h4'.out h5 hxy hrr hgr hgrr hE97 t hl97'.out hO97 hq97)
                    clear hO97 hr97 hg97 h5 h1 hc0 hc0y hf0 hf0y
                    go_wp2_with fail
                    go_ret2
                    exact refAdd_mk _ 0 _ rfl hres.out hend.out.1 hend.out.2
              · have hcc' := hcc
                go_wp2_with fail
                with_reducible refine (rising_calls A0 c0 pb po ps w hx hps).mono ?_
                rintro e wy ⟨vr, gr, r, rfl, hOr, hsr, hlr, hgr, hxy⟩
                obtain ⟨Ar, cr, br, orr, rfl, hrr, hgrr⟩ := hOr.read
                by_cases hr0 : r = []
                · have hd5 : decide (0 < r.length) = false := by simp [hr0]
                  have hres : Hid (AddRes L id ps r.length 0 L) := .inr ⟨hok.out, .inr ⟨hnone.out, rfl, r, hsr, rfl, .inl ⟨hr0, rfl⟩⟩⟩
                  have hRy := hR0.keep hxy (fun _ _ _ => nb)
                  clear hr0
                  go_wp2_with fail
                  go_ret2
                  exact refAdd_mk _ 0 L rfl hres.out hRy (hxy.mono (fun _ _ h => h.elim))
                · have hd5 : decide (0 < r.length) = true := by simp; exact List.length_pos_iff.2 hr0
                  have hins : AddIns L id r ([] ++ L.take t ++ [(id, r)] ++ L.drop t) := ⟨t, ht, hlow.out, hhi'.out, rfl⟩
                  have hres : Hid (AddRes L id ps r.length 0 ([] ++ L.take t ++ [(id, r)] ++ L.drop t)) := .inr ⟨hok.out, .inr ⟨hnone.out, rfl, r, hsr, rfl, .inr ⟨hr0, hins⟩⟩⟩
                  clear hins hr0
                  go_wp2_with fail
                  have hc0y : wy.cell? ⟨b, 0, none⟩ = some (.slice (some ⟨b2, o2, none⟩) L.length c) := hxy.cell hc0 nb
                  have hf0y := hxy.free hc0 hf0 nb
                  have hrowsy := h2.keep hxy nb1
                  have hby := hxy.lt hbw
                  have htr : t ≤ rows.length := by omega
                  have hti : (t : Int) ≤ (c : Int) := by omega
                  have htn : t ≤ c := by omega
                  have hct : ¬ c = t := hcc'
                  have q1 : (([] : List RowV).length + (rows.take t).length) * 32 ≤ 140737488355328 := by rw [List.length_take, List.length_nil]; omega
                  have q2 : ([] : List RowV).length + (rows.take t).length ≤ maxLen := by rw [List.length_take, List.length_nil]; unfold maxLen; omega
                  have q3 : t = (rows.take t).length := by rw [List.length_take]; omega
                  have q4 : (([] ++ rows.take t).length + [(⟨id, Ar, r.length, cr⟩ : RowV)].length) * 32 ≤ 140737488355328 := by simp; omega
                  have q5 : ([] ++ rows.take t).length + [(⟨id, Ar, r.length, cr⟩ : RowV)].length ≤ maxLen := by unfold maxLen; simp; omega
                  have q6 : (([] ++ rows.take t ++ [(⟨id, Ar, r.length, cr⟩ : RowV)]).length + (rows.drop t).length) * 32 ≤ 140737488355328 := by simp; omega
                  have q7 : ([] ++ rows.take t ++ [(⟨id, Ar, r.length, cr⟩ : RowV)]).length + (rows.drop t).length ≤ maxLen := by unfold maxLen; simp; omega
                  have q8 : L.length - t = (rows.drop t).length := by rw [List.length_drop]; omega
                  have q1' := Lib.hid q1
                  have q3' := Lib.hid q3
                  have q8' := Lib.hid q8
                  have q10' : Hid (rows.drop t = []) := List.eq_nil_of_length_eq_zero (by rw [List.length_drop]; have := hte'.out; omega)
                  have h4' := Lib.hid h4
                  clear h4 q1 q3 q8
                  refine wp_region_V 23 (fun w' => w'.cell? ⟨b, 0, none⟩ = some (.slice (some ⟨b2, o2, none⟩) L.length c)) (by kernel_rfl) ?_
                  try simp only [Act.put, List.setIfInBounds_toArray, List.set_cons_zero, List.set_cons_succ]
                  refine wpAnyV_take (i := 0) (by kernel_rfl) (by kernel_rfl) (by kernel_rfl) (by kernel_rfl) (by kernel_rfl) hc0y (fun o ho => ?_)
                  conv at ho => rhs; whnf
                  subst ho
                  refine ⟨?_, fun _ _ _ h => h, Or.inl ⟨by rfl, ?_⟩, ?_⟩
                  rotate_left
                  · intro w hSw
                    try dsimp only at hSw
                    first | (go_simp; done) | (go_simp; with_reducible rfl)
                  try simp only [Act.put, List.setIfInBounds_toArray, List.set_cons_zero, List.set_cons_succ]
                  refine wpAnyV_take (i := 2) (by kernel_rfl) (by kernel_rfl) (by kernel_rfl) (by kernel_rfl) (by kernel_rfl) hc0y (fun o ho => ?_)
                  conv at ho => rhs; whnf
                  subst ho
                  refine ⟨?_, fun _ _ _ h => h, Or.inl ⟨by rfl, ?_⟩, ?_⟩
                  rotate_left
                  · intro w hSw
                    try dsimp only at hSw
                    first | (go_simp; done) | (go_simp; with_reducible rfl)
                  try simp only [Act.put, List.setIfInBounds_toArray, List.set_cons_zero, List.set_cons_succ]
                  refine wpAnyV_take (i := 3) (by kernel_rfl) (by kernel_rfl) (by kernel_rfl) (by kernel_rfl) (by kernel_rfl) hc0y (fun o ho => ?_)
                  conv at ho => rhs; whnf
                  subst ho
                  refine ⟨?_, fun _ _ _ h => h, Or.inl ⟨by rfl, ?_⟩, ?_⟩
                  rotate_left
                  · intro w hSw
                    try dsimp only at hSw
                    first | (go_simp; done) | (go_simp; with_reducible rfl)
                  try simp only [Act.put, List.setIfInBounds_toArray, List.set_cons_zero, List.set_cons_succ]
                  refine wpAnyV_take (i := 4) (by kernel_rfl) (by kernel_rfl) (by kernel_rfl) (by kernel_rfl) (by kernel_rfl) hc0y (fun o ho => ?_)
                  conv at ho => rhs; whnf
                  subst ho
                  refine ⟨?_, fun _ _ _ h => h, Or.inl ⟨by rfl, ?_⟩, ?_⟩
                  rotate_left
                  · intro w hSw
                    try dsimp only at hSw
                    first | (go_simp; done) | (go_simp; with_reducible rfl)
                  try simp only [Act.put, List.setIfInBounds_toArray, List.set_cons_zero, List.set_cons_succ]
                  refine wpAnyV_take (i := 5) (by kernel_rfl) (by kernel_rfl) (by kernel_rfl) (by kernel_rfl) (by kernel_rfl) hc0y (fun o ho => ?_)
                  conv at ho => rhs; whnf
                  subst ho
                  refine ⟨?_, fun _ _ _ h => h, Or.inl ⟨by rfl, ?_⟩, ?_⟩
                  rotate_left
                  · intro w hSw
                    try dsimp only at hSw
                    first | (go_simp; done) | (go_simp; with_reducible rfl)
                  try simp only [Act.put, List.setIfInBounds_toArray, List.set_cons_zero, List.set_cons_succ]
                  refine wpAnyV_take (i := 6) (by kernel_rfl) (by kernel_rfl) (by kernel_rfl) (by kernel_rfl) (by kernel_rfl) hc0y (fun o ho => ?_)
                  conv at ho => rhs; whnf
                  subst ho
                  refine ⟨?_, fun _ _ _ h => h, Or.inl ⟨by rfl, ?_⟩, ?_⟩
                  rotate_left
                  · intro w hSw
                    try dsimp only at hSw
                    first | (go_simp; done) | (go_simp; with_reducible rfl)
                  try simp only [Act.put, List.setIfInBounds_toArray, List.set_cons_zero, List.set_cons_succ]
                  refine wpAnyV_take (i := 7) (by kernel_rfl) (by kernel_rfl) (by kernel_rfl) (by kernel_rfl) (by kernel_rfl) hc0y (fun o ho => ?_)
                  conv at ho => rhs; whnf
                  subst ho
                  refine ⟨?_, fun _ _ _ h => h, Or.inl ⟨by rfl, ?_⟩, ?_⟩
                  rotate_left
                  · intro w hSw
                    try dsimp only at hSw
                    first | (go_simp; done) | (go_simp; with_reducible rfl)
                  try simp only [Act.put, List.setIfInBounds_toArray, List.set_cons_zero, List.set_cons_succ]
                  refine wpAnyV_take (i := 9) (by kernel_rfl) (by kernel_rfl) (by kernel_rfl) (by kernel_rfl) (by kernel_rfl) hc0y (fun o ho => ?_)
                  conv at ho => rhs; whnf
                  subst ho
                  refine ⟨?_, fun _ _ _ h => h, Or.inl ⟨by rfl, ?_⟩, ?_⟩
                  rotate_left
                  · intro w hSw
                    try dsimp only at hSw
                    first | (go_simp; done) | (go_simp; with_reducible rfl)
                  try simp only [Act.put, List.setIfInBounds_toArray, List.set_cons_zero, List.set_cons_succ]
                  refine wpAnyV_take (i := 10) (by kernel_rfl) (by kernel_rfl) (by kernel_rfl) (by kernel_rfl) (by kernel_rfl) hc0y (fun o ho => ?_)
                  conv at ho => rhs; whnf
                  subst ho
                  refine ⟨?_, fun _ _ _ h => h, Or.inl ⟨by rfl, ?_⟩, ?_⟩
                  rotate_left
                  · intro w hSw
                    try dsimp only at hSw
                    first | (go_simp; done) | (go_simp; with_reducible rfl)
                  try simp only [Act.put, List.setIfInBounds_toArray, List.set_cons_zero, List.set_cons_succ]
                  refine wpAnyV_take (i := 11) (by kernel_rfl) (by kernel_rfl) (by kernel_rfl) (by kernel_rfl) (by kernel_rfl) hc0y (fun o ho => ?_)
                  conv at ho => rhs; whnf
                  subst ho
                  refine ⟨?_, fun _ _ _ h => h, Or.inl ⟨by rfl, ?_⟩, ?_⟩
                  rotate_left
                  · intro w hSw
                    try dsimp only at hSw
                    first | (go_simp; done) | (go_simp; with_reducible rfl)
                  try simp only [Act.put, List.setIfInBounds_toArray, List.set_cons_zero, List.set_cons_succ]
                  refine wpAnyV_take (i := 14) (by kernel_rfl) (by kernel_rfl) (by kernel_rfl) (by kernel_rfl) (by kernel_rfl) hc0y (fun o ho => ?_)
                  conv at ho => rhs; whnf
                  subst ho
                  refine ⟨?_, fun _ _ _ h => h, Or.inl ⟨by rfl, ?_⟩, ?_⟩
                  rotate_left
                  · intro w hSw
                    try dsimp only at hSw
                    first | (go_simp; done) | (go_simp; with_reducible rfl)
                  try simp only [Act.put, List.setIfInBounds_toArray, List.set_cons_zero, List.set_cons_succ]
                  refine wpAnyV_take (i := 15) (by kernel_rfl) (by kernel_rfl) (by kernel_rfl) (by kernel_rfl) (by kernel_rfl) hc0y (fun o ho => ?_)
                  conv at ho => rhs; whnf
                  subst ho
                  refine ⟨?_, fun _ _ _ h => h, Or.inl ⟨by rfl, ?_⟩, ?_⟩
                  rotate_left
                  · intro w hSw
                    try dsimp only at hSw
                    first | (go_simp; done) | (go_simp; with_reducible rfl)
                  try simp only [Act.put, List.setIfInBounds_toArray, List.set_cons_zero, List.set_cons_succ]
                  refine wpAnyV_take (i := 16) (by kernel_rfl) (by kernel_rfl) (by kernel_rfl) (by kernel_rfl) (by kernel_rfl) hc0y (fun o ho => ?_)
                  conv at ho => rhs; whnf
                  subst ho
                  refine ⟨?_, fun _ _ _ h => h, Or.inl ⟨by rfl, ?_⟩, ?_⟩
                  rotate_left
                  · intro w hSw
                    try dsimp only at hSw
                    first | (go_simp; done) | (go_simp; with_reducible rfl)
                  try simp only [Act.put, List.setIfInBounds_toArray, List.set_cons_zero, List.set_cons_succ]
                  refine wpAnyV_take (i := 17) (by kernel_rfl) (by kernel_rfl) (by kernel_rfl) (by kernel_rfl) (by kernel_rfl) hc0y (fun o ho => ?_)
                  conv at ho => rhs; whnf
                  subst ho
                  refine ⟨?_, fun _ _ _ h => h, Or.inl ⟨by rfl, ?_⟩, ?_⟩
                  rotate_left
                  · intro w hSw
                    try dsimp only at hSw
                    first | (go_simp; done) | (go_simp; with_reducible rfl)
                  try simp only [Act.put, List.setIfInBounds_toArray, List.set_cons_zero, List.set_cons_succ]
                  refine wpAnyV_take (i := 18) (by kernel_rfl) (by kernel_rfl) (by kernel_rfl) (by kernel_rfl) (by kernel_rfl) hc0y (fun o ho => ?_)
                  conv at ho => rhs; whnf
                  subst ho
                  refine ⟨?_, fun _ _ _ h => h, Or.inl ⟨by rfl, ?_⟩, ?_⟩
                  rotate_left
                  · intro w hSw
                    try dsimp only at hSw
                    first | (go_simp; done) | (go_simp; with_reducible rfl)
                  try simp only [Act.put, List.setIfInBounds_toArray, List.set_cons_zero, List.set_cons_succ]
                  refine wpAnyV_take (i := 19) (by kernel_rfl) (by kernel_rfl) (by kernel_rfl) (by kernel_rfl) (by kernel_rfl) hc0y (fun o ho => ?_)
                  conv at ho => rhs; whnf
                  subst ho
                  refine ⟨?_, fun _ _ _ h => h, Or.inl ⟨by rfl, ?_⟩, ?_⟩
                  rotate_left
                  · intro w hSw
                    try dsimp only at hSw
                    first | (go_simp; done) | (go_simp; with_reducible rfl)
                  try simp only [Act.put, List.setIfInBounds_toArray, List.set_cons_zero, List.set_cons_succ]
                  refine wpAnyV_two (i := 1) (j := 12) (by kernel_rfl) (by kernel_rfl) (by kernel_rfl) (fun o ho K hK => ?_) (fun o ho K hK => ?_)
                  · conv at ho => rhs; whnf
                    subst ho
                    go_simp
                    refine hK.out _ _ (Or.inr (Ext.cell ((Ext.refl NoB _).alloc _) hc0y nb)) ?_
                    clear hK K
                    try simp only [Act.put, List.setIfInBounds_toArray, List.set_cons_zero, List.set_cons_succ]
                    refine wpAnyV_two (i := 8) (j := 12) (by kernel_rfl) (by kernel_rfl) (by kernel_rfl) (fun o ho K hK => ?_) (fun o ho K hK => ?_)
                    · conv at ho => rhs; whnf
                      subst ho
                      refine step_appendW wy 38 32 elem_row rowE_len rowE_one (some (wy.heap.size)) (.slice (some ⟨wy.heap.size, 0, none⟩) 0 0) ([]) (rows.take t) (.tmp 78) (.tmp 84) (some ⟨b2, o2, none⟩) (c) (b') (o) (t) q1'.out q2 q3'.out (ne_own (by omega)) rfl rfl rfl rfl ((Ext.refl NoB wy).drew.alloc _) (SlO.made (b := wy.heap.size) (xs := ([] : List RowV)) (cs := #[]) (alloc_at wy.drew _) rfl rowE_len (Nat.zero_le _)) ((SlR.keep hrowsy ((Ext.refl NoB wy).drew.alloc _) nb1).take rowE_len htr) (fun v85 w85 g85 hO85 hx85 hE85 hq85 => ?_)
                      try go_simp
                      refine hK.out _ _ (Or.inr (hE85.cell hc0y nb)) ?_
                      clear hK K
                      try simp only [Act.put, List.setIfInBounds_toArray, List.set_cons_zero, List.set_cons_succ]
                      refine wpAnyV_one (i := 12) (by kernel_rfl) (by kernel_rfl) (fun o ho K hK => ?_)
                      conv at ho => rhs; whnf
                      subst ho
                      go_simp
                      refine hK.out _ _ (Or.inr (Ext.cell ((Ext.refl NoB _).alloc _) (hE85.cell hc0y nb) nb)) ?_
                      clear hK K
                      try simp only [Act.put, List.setIfInBounds_toArray, List.set_cons_zero, List.set_cons_succ]
                      refine wpAnyV_one (i := 13) (by kernel_rfl) (by kernel_rfl) (fun o ho K hK => ?_)
                      conv at ho => rhs; whnf
                      subst ho
                      refine step_appendW wy 38 32 elem_row rowE_len rowE_one (g85) (v85) ([] ++ rows.take t) ([(⟨id, Ar, r.length, cr⟩ : RowV)]) (.tmp 85) (.tmp 89) (some ⟨w85.heap.size, 0, none⟩) (1) (w85.heap.size) (0) (1) q4 q5 rfl hq85 rfl rfl rfl rfl (hE85.alloc _) (hO85.keep (F := NoB) ((Ext.refl NoB w85).alloc _) (fun _ _ => nb)) (SlR.one' (E := 63) (fr := (0, 0)) (cs := #[.int .i64 id, .slice Ar r.length cr]) (alloc_at w85 _) rfl) (fun v90 w90 g90 hO90 hx90 hE90 hq90 => ?_)
                      try go_simp
                      refine hK.out _ _ (Or.inr (hE90.cell hc0y nb)) ?_
                      clear hK K
                      try simp only [Act.put, List.setIfInBounds_toArray, List.set_cons_zero, List.set_cons_succ]
                      refine wpAnyV_one (i := 20) (by kernel_rfl) (by kernel_rfl) (fun o ho K hK => ?_)
                      conv at ho => rhs; whnf
                      subst ho
                      refine step_appendW wy 38 32 elem_row rowE_len rowE_one (g90) (v90) ([] ++ rows.take t ++ [(⟨id, Ar, r.length, cr⟩ : RowV)]) (rows.drop t) (.tmp 90) (.tmp 96) (some ⟨b2, o2 + t * 2, none⟩) (c - t) (b') (o + t * 2) (L.length - t) q6 q7 q8'.out hq90 rfl rfl rfl rfl (hE90) (hO90) (slR_nil q10'.out (by unfold maxLen; omega)) (fun v97 w97 g97 hO97 hx97 hE97 hq97 => ?_)
                      generalize hl97 : [] ++ rows.take t ++ [(⟨id, Ar, r.length, cr⟩ : RowV)] ++ rows.drop t = rows97 at hO97
                      have hl97' := Lib.hid hl97
                      clear hl97
                      obtain ⟨A97, c97, b97, o97, rfl, hr97, hg97⟩ := hO97.read
                      try go_simp
                      refine hK.out _ _ (Or.inr (hE97.cell hc0y nb)) ?_
                      clear hK K
                      try simp only [Act.put, List.setIfInBounds_toArray, List.set_cons_zero, List.set_cons_succ]
                      have zc97 := hE97.cell hc0y nb
                      have zf97 := hE97.free hc0y hf0y nb
                      refine wpAnyV_one (i := 21) (by kernel_rfl) (by kernel_rfl) (fun o ho K hK => ?_)
                      conv at ho => rhs; whnf
                      subst ho
                      go_simp
                      refine hK.out _ _ (Or.inr (hE97.cell hc0y nb)) ?_
                      clear hK K
                      try simp only [Act.put, List.setIfInBounds_toArray, List.set_cons_zero, List.set_cons_succ]
                      refine wpAnyV_one (i := 22) (by kernel_rfl) (by kernel_rfl) (fun o ho K hK => ?_)
                      conv at ho => rhs; whnf
                      subst ho
                      go_simp
                      refine hK.out _ _ (Or.inr (hE97.cell hc0y nb)) ?_
                      clear hK K
                      try simp only [Act.put, List.setIfInBounds_toArray, List.set_cons_zero, List.set_cons_succ]
                      refine wpAnyV_one (i := 23) (by kernel_rfl) (by kernel_rfl) (fun o ho K hK => ?_)
                      conv at ho => rhs; whnf
                      subst ho
                      go_simp
                      refine hK.out _ _ (Or.inl rfl) ?_
                      clear hK K
                      try simp only [Act.put, List.setIfInBounds_toArray, List.set_cons_zero, List.set_cons_succ]
                      refine wpAnyV_done (by kernel_rfl) ?_ _
                      have hend := Lib.hid (refAdd_end h1 h4'.out h5 hxy hrr hgr hgrr hE97 t hl97'.out hO97 hq97)
                      clear hO97 hr97 hg97 h5 h1 hc0 hc0y hf0 hf0y
                      go_wp2_with fail
                      go_ret2
                      exact refAdd_mk _ 0 _ rfl hres.out hend.out.1 hend.out.2
                    · conv at ho => rhs; whnf
                      subst ho
                      go_simp
                      refine hK.out _ _ (Or.inr (Ext.cell (((Ext.refl NoB _).alloc _).alloc _) hc0y nb)) ?_
                      clear hK K
                      try simp only [Act.put, List.setIfInBounds_toArray, List.set_cons_zero, List.set_cons_succ]
                      refine wpAnyV_one (i := 8) (by kernel_rfl) (by kernel_rfl) (fun o ho K hK => ?_)
                      conv at ho => rhs; whnf
                      subst ho
                      refine step_appendW wy 38 32 elem_row rowE_len rowE_one (some (wy.heap.size)) (.slice (some ⟨wy.heap.size, 0, none⟩) 0 0) ([]) (rows.take t) (.tmp 78) (.tmp 84) (some ⟨b2, o2, none⟩) (c) (b') (o) (t) q1'.out q2 q3'.out (ne_own (by omega)) rfl rfl rfl rfl (((Ext.refl NoB wy).drew.alloc _).alloc _) (SlO.made (b := wy.heap.size) (xs := ([] : List RowV)) (cs := #[]) (((Ext.refl NoB _).alloc _).keep (alloc_at wy.drew _) nb) rfl rowE_len (Nat.zero_le _)) ((SlR.keep hrowsy (((Ext.refl NoB wy).drew.alloc _).alloc _) nb1).take rowE_len htr) (fun v85 w85 g85 hO85 hx85 hE85 hq85 => ?_)
                      try go_simp
                      refine hK.out _ _ (Or.inr (hE85.cell hc0y nb)) ?_
                      clear hK K
                      try simp only [Act.put, List.setIfInBounds_toArray, List.set_cons_zero, List.set_cons_succ]
                      refine wpAnyV_one (i := 13) (by kernel_rfl) (by kernel_rfl) (fun o ho K hK => ?_)
                      conv at ho => rhs; whnf
                      subst ho
                      refine step_appendW wy 38 32 elem_row rowE_len rowE_one (g85) (v85) ([] ++ rows.take t) ([(⟨id, Ar, r.length, cr⟩ : RowV)]) (.tmp 85) (.tmp 89) (some ⟨wy.heap.size + 1, 0, none⟩) (1) (wy.heap.size + 1) (0) (1) q4 q5 rfl hq85 rfl rfl rfl rfl (hE85) (hO85) (SlR.one' (E := 63) (fr := (0, 0)) (cs := #[.int .i64 id, .slice Ar r.length cr]) (hx85.keep (alloc_at' _ _ _ (by simp)) (some_ne (by omega))) rfl) (fun v90 w90 g90 hO90 hx90 hE90 hq90 => ?_)
                      try go_simp
                      refine hK.out _ _ (Or.inr (hE90.cell hc0y nb)) ?_
                      clear hK K
                      try simp only [Act.put, List.setIfInBounds_toArray, List.set_cons_zero, List.set_cons_succ]
                      refine wpAnyV_one (i := 20) (by kernel_rfl) (by kernel_rfl) (fun o ho K hK => ?_)
                      conv at ho => rhs; whnf
                      subst ho
                      refine step_appendW wy 38 32 elem_row rowE_len rowE_one (g90) (v90) ([] ++ rows.take t ++ [(⟨id, Ar, r.length, cr⟩ : RowV)]) (rows.drop t) (.tmp 90) (.tmp 96) (some ⟨b2, o2 + t * 2, none⟩) (c - t) (b') (o + t * 2) (L.length - t) q6 q7 q8'.out hq90 rfl rfl rfl rfl (hE90) (hO90) (slR_nil q10'.out (by unfold maxLen; omega)) (fun v97 w97 g97 hO97 hx97 hE97 hq97 => ?_)
                      generalize hl97 : [] ++ rows.take t ++ [(⟨id, Ar, r.length, cr⟩ : RowV)] ++ rows.drop t = rows97 at hO97
                      have hl97' := Lib.hid hl97
                      clear hl97
                      obtain ⟨A97, c97, b97, o97, rfl, hr97, hg97⟩ := hO97.read
                      try go_simp
                      refine hK.out _ _ (Or.inr (hE97.cell hc0y nb)) ?_
                      clear hK K
                      try simp only [Act.put, List.setIfInBounds_toArray, List.set_cons_zero, List.set_cons_succ]
                      have zc97 := hE97.cell hc0y nb
                      have zf97 := hE97.free hc0y hf0y nb
                      refine wpAnyV_one (i := 21) (by kernel_rfl) (by kernel_rfl) (fun o ho K hK => ?_)
                      conv at ho => rhs; whnf
                      subst ho
                      go_simp
                      refine hK.out _ _ (Or.inr (hE97.cell hc0y nb)) ?_
                      clear hK K
                      try simp only [Act.put, List.setIfInBounds_toArray, List.set_cons_zero, List.set_cons_succ]
                      refine wpAnyV_one (i := 22) (by kernel_rfl) (by kernel_rfl) (fun o ho K hK => ?_)
                      conv at ho => rhs; whnf
                      subst ho
                      go_simp
                      refine hK.out _ _ (Or.inr (hE97.cell hc0y nb)) ?_
                      clear hK K
                      try simp only [Act.put, List.setIfInBounds_toArray, List.set_cons_zero, List.set_cons_succ]
                      refine wpAnyV_one (i := 23) (by kernel_rfl) (by kernel_rfl) (fun o ho K hK => ?_)
                      conv at ho => rhs; whnf
                      subst ho
                      go_simp
                      refine hK.out _ _ (Or.inl rfl) ?_
                      clear hK K
                      try simp only [Act.put, List.setIfInBounds_toArray, List.set_cons_zero, List.set_cons_succ]
                      refine wpAnyV_done (by kernel_rfl) ?_ _
                      have hend := Lib.hid (refAdd_end h1 h4'.out h5 hxy hrr hgr hgrr hE97 t hl97'.out hO97 hq97)
                      clear hO97 hr97 hg97 h5 h1 hc0 hc0y hf0 hf0y
                      go_wp2_with fail
                      go_ret2
                      exact refAdd_mk _ 0 _ rfl hres.out hend.out.1 hend.out.2
                  · conv at ho => rhs; whnf
                    subst ho
                    go_simp
                    refine hK.out _ _ (Or.inr (Ext.cell ((Ext.refl NoB _).alloc _) hc0y nb)) ?_
                    clear hK K
                    try simp only [Act.put, List.setIfInBounds_toArray, List.set_cons_zero, List.set_cons_succ]
                    refine wpAnyV_one (i := 1) (by kernel_rfl) (by kernel_rfl) (fun o ho K hK => ?_)
                    conv at ho => rhs; whnf
                    subst ho
                    go_simp
                    refine hK.out _ _ (Or.inr (Ext.cell (((Ext.refl NoB _).alloc _).alloc _) hc0y nb)) ?_
                    clear hK K
                    try simp only [Act.put, List.setIfInBounds_toArray, List.set_cons_zero, List.set_cons_succ]
                    refine wpAnyV_one (i := 8) (by kernel_rfl) (by kernel_rfl) (fun o ho K hK => ?_)
                    conv at ho => rhs; whnf
                    subst ho
                    refine step_appendW wy 38 32 elem_row rowE_len rowE_one (some (wy.heap.size + 1)) (.slice (some ⟨wy.heap.size + 1, 0, none⟩) 0 0) ([]) (rows.take t) (.tmp 78) (.tmp 84) (some ⟨b2, o2, none⟩) (c) (b') (o) (t) q1'.out q2 q3'.out (ne_own (by omega)) rfl rfl rfl rfl (((Ext.refl NoB wy).drew.alloc _).alloc _) (SlO.made (b := wy.heap.size + 1) (xs := ([] : List RowV)) (cs := #[]) (alloc_at' _ _ _ (by simp)) rfl rowE_len (Nat.zero_le _)) ((SlR.keep hrowsy (((Ext.refl NoB wy).drew.alloc _).alloc _) nb1).take rowE_len htr) (fun v85 w85 g85 hO85 hx85 hE85 hq85 => ?_)
                    try go_simp
                    refine hK.out _ _ (Or.inr (hE85.cell hc0y nb)) ?_
                    clear hK K
                    try simp only [Act.put, List.setIfInBounds_toArray, List.set_cons_zero, List.set_cons_succ]
                    refine wpAnyV_one (i := 13) (by kernel_rfl) (by kernel_rfl) (fun o ho K hK => ?_)
                    conv at ho => rhs; whnf
                    subst ho
                    refine step_appendW wy 38 32 elem_row rowE_len rowE_one (g85) (v85) ([] ++ rows.take t) ([(⟨id, Ar, r.length, cr⟩ : RowV)]) (.tmp 85) (.tmp 89) (some ⟨wy.heap.size, 0, none⟩) (1) (wy.heap.size) (0) (1) q4 q5 rfl hq85 rfl rfl rfl rfl (hE85) (hO85) (SlR.one' (E := 63) (fr := (0, 0)) (cs := #[.int .i64 id, .slice Ar r.length cr]) (hx85.keep (((Ext.refl NoB _).alloc _).keep (alloc_at wy.drew _) nb) (some_ne (by omega))) rfl) (fun v90 w90 g90 hO90 hx90 hE90 hq90 => ?_)
                    try go_simp
                    refine hK.out _ _ (Or.inr (hE90.cell hc0y nb)) ?_
                    clear hK K
                    try simp only [Act.put, List.setIfInBounds_toArray, List.set_cons_zero, List.set_cons_succ]
                    refine wpAnyV_one (i := 20) (by kernel_rfl) (by kernel_rfl) (fun o ho K hK => ?_)
                    conv at ho => rhs; whnf
                    subst ho
                    refine step_appendW wy 38 32 elem_row rowE_len rowE_one (g90) (v90) ([] ++ rows.take t ++ [(⟨id, Ar, r.length, cr⟩ : RowV)]) (rows.drop t) (.tmp 90) (.tmp 96) (some ⟨b2, o2 + t * 2, none⟩) (c - t) (b') (o + t * 2) (L.length - t) q6 q7 q8'.out hq90 rfl rfl rfl rfl (hE90) (hO90) (slR_nil q10'.out (by unfold maxLen; omega)) (fun v97 w97 g97 hO97 hx97 hE97 hq97 => ?_)
                    generalize hl97 : [] ++ rows.take t ++ [(⟨id, Ar, r.length, cr⟩ : RowV)] ++ rows.drop t = rows97 at hO97
                    have hl97' := Lib.hid hl97
                    clear hl97
                    obtain ⟨A97, c97, b97, o97, rfl, hr97, hg97⟩ := hO97.read
                    try go_simp
                    refine hK.out _ _ (Or.inr (hE97.cell hc0y nb)) ?_
                    clear hK K
                    try simp only [Act.put, List.setIfInBounds_toArray, List.set_cons_zero, List.set_cons_succ]
                    have zc97 := hE97.cell hc0y nb
                    have zf97 := hE97.free hc0y hf0y nb
                    refine wpAnyV_one (i := 21) (by kernel_rfl) (by kernel_rfl) (fun o ho K hK => ?_)
                    conv at ho => rhs; whnf
                    subst ho
                    go_simp
                    refine hK.out _ _ (Or.inr (hE97.cell hc0y nb)) ?_
                    clear hK K
                    try simp only [Act.put, List.setIfInBounds_toArray, List.set_cons_zero, List.set_cons_succ]
                    refine wpAnyV_one (i := 22) (by kernel_rfl) (by kernel_rfl) (fun o ho K hK => ?_)
                    conv at ho => rhs; whnf
                    subst ho
                    go_simp
                    refine hK.out _ _ (Or.inr (hE97.cell hc0y nb)) ?_
                    clear hK K
                    try simp only [Act.put, List.setIfInBounds_toArray, List.set_cons_zero, List.set_cons_succ]
                    refine wpAnyV_one (i := 23) (by kernel_rfl) (by kernel_rfl) (fun o ho K hK => ?_)
                    conv at ho => rhs; whnf
                    subst ho
                    go_simp
                    refine hK.out _ _ (Or.inl rfl) ?_
                    clear hK K
                    try simp only [Act.put, List.setIfInBounds_toArray, List.set_cons_zero, List.set_cons_succ]
                    refine wpAnyV_done (by kernel_rfl) ?_ _
                    have hend := Lib.hid (refAdd_end h1 h4'.out h5 hxy hrr hgr hgrr hE97 t hl97'.out hO97 hq97)
                    clear hO97 hr97 hg97 h5 h1 hc0 hc0y hf0 hf0y
                    go_wp2_with fail
                    go_ret2
                    exact refAdd_mk _ 0 _ rfl hres.out hend.out.1 hend.out.2

end Go.Proofs.Ytolihdcfhonfgaa
