/- The reference's Rising. -/
import Derived.Test.YtolihdcfhonfgaaProg
import Derived.Test.YtolihdcfhonfgaaDagV1
import Derived.Test.YtolihdcfhonfgaaStep
namespace Go.Proofs.Ytolihdcfhonfgaa
open Go.RowKit
set_option linter.unusedSimpArgs false
set_option linter.unusedVariables false

theorem ins_set {l : List Int} {P : Int → Prop} {t : Nat} {u : Int} (h : SetList l P) (hlow : ∀ q (h : q < l.length), q < t → l[q] < u) (hhigh : ∀ q (h : q < l.length), t ≤ q → u < l[q]) :
    SetList ([] ++ l.take t ++ [u] ++ l.drop t) (fun x => P x ∨ x = u) := by
  have hpw := h.1
  have e : l.take t ++ l.drop t = l := List.take_append_drop t l
  have h1 : ∀ x ∈ l.take t, x < u := fun x hx => by
    obtain ⟨q, hq, rfl⟩ := List.mem_iff_getElem.1 hx
    rw [List.length_take] at hq
    rw [List.getElem_take]
    exact hlow q (by omega) (by omega)
  have h2 : ∀ x ∈ l.drop t, u < x := fun x hx => by
    obtain ⟨q, hq, rfl⟩ := List.mem_iff_getElem.1 hx
    rw [List.length_drop] at hq
    rw [List.getElem_drop]
    exact hhigh (t + q) (by omega) (by omega)
  rw [← e, List.pairwise_append] at hpw
  obtain ⟨p1, p2, p3⟩ := hpw
  refine ⟨?_, fun x => ?_⟩
  · rw [List.nil_append, List.pairwise_append, List.pairwise_append]
    refine ⟨⟨p1, by simp, fun a ha b hb => by simp at hb; rw [hb]; exact h1 a ha⟩, p2, fun a ha b hb => ?_⟩
    rcases List.mem_append.1 ha with ha | ha
    · exact p3 a ha b hb
    · simp at ha; rw [ha]; exact h2 b hb
  · show _ ↔ (P x ∨ x = u)
    rw [← h.2 x]
    conv => rhs; rw [← e]
    simp only [List.nil_append, List.mem_append, List.mem_singleton]
    constructor
    · rintro ((h | h) | h)
      · exact .inl (.inl h)
      · exact .inr h
      · exact .inl (.inr h)
    · rintro ((h | h) | h)
      · exact .inl (.inl h)
      · exact .inr h
      · exact .inl (.inr h)

theorem slR_nil {w : World} {α : Type} {k : Nat} {enc : α → List Value} {A : Option Addr} {c b o : Nat} {xs : List α} (h : xs = []) (hc : c ≤ maxLen) : SlR w k enc A c b o xs := by
  subst h
  exact ⟨by simp, by simp, hc, by intro j u hu; simp at hu⟩

theorem ne_own {n m : Nat} (h : n ≤ m) : ∀ q, some m = some q → n ≤ q := fun q e => by injection e with e; omega
theorem some_ne {n m : Nat} (h : n ≠ m) : ¬ some n = some m := fun e => h (by injection e)

set_option maxRecDepth 4000 in
set_option maxHeartbeats 2000000 in
theorem rising_calls (A : Option Addr) (c b o : Nat) (xs : List Int) (w : World) (hx : SlR w 1 intE A c b o xs) (hL : xs.length ≤ 1000000) :
    Calls Try.prog 29 #[.slice A xs.length c] w fun e w' => ∃ v g l, e = .returned v ∧ SlO w' 3 1 intE g v l ∧ SetList l (· ∈ xs) ∧ l.length ≤ xs.length ∧ (∀ q, g = some q → w.heap.size ≤ q) ∧ Ext NoB w w' := by
  have hle := hx.le
  have hmx := hx.max
  unfold maxLen at hmx
  have hblt : 0 < xs.length → b < w.heap.size := fun hp => World.block_lt_of_cell? w ⟨b, o + 0, none⟩ (hx.intCell 0 hp)
  go_enter Try.func29, Try.ntmps29
  go_wp2_with fail
  go_loopw [3, 4] (fun out i wr => ∃ (k : Nat) (g : Option Nat) (l : List Int), k ≤ xs.length ∧ i = .int .i64 k ∧ SlO wr 3 1 intE g out l ∧ SetList l (· ∈ xs.take k) ∧ l.length ≤ k ∧ (∀ q, g = some q → w.heap.size ≤ q) ∧ Ext NoB w wr) (fun _ i _ => xs.length - (intOf i).toNat)
  case atStart => exact ⟨0, none, [], Nat.zero_le _, rfl, SlO.nil _ _ _ _, ⟨List.Pairwise.nil, by simp⟩, Nat.le_refl _, by simp, Ext.refl _ _⟩
  case round =>
    obtain ⟨k, g, l, hk, rfl, hO, hs, hll, hg, hext⟩ := hrel
    by_cases hlt : k < xs.length
    · obtain rfl := hx.addr (by omega)
      generalize wr = wo at *
      obtain ⟨A1, c1, b1, o1, rfl, hr, hgb⟩ := hO.read
      have hlel := hr.le
      have hmxl := hr.max
      unfold maxLen at hmxl
      have htk := Lib.hid (List.take_succ_eq_append_getElem hlt)
      have hck0 := (hx.keep hext nb1).intCell k hlt
      have hsz := hext.size
      generalize xs[k] = u at *
      go_wp2_with fail
      go_loopw [5] (fun j wr => ∃ t : Nat, t ≤ l.length ∧ j = .int .i64 t ∧ Hid (∀ q (h : q < l.length), q < t → l[q] < u) ∧ Ext NoB wo wr) (fun j _ => l.length - (intOf j).toNat)
      case atStart => exact ⟨0, Nat.zero_le _, rfl, fun q h hq => absurd hq (Nat.not_lt_zero _), Ext.refl _ _⟩
      case round =>
        obtain ⟨t, ht, rfl, hlow, hxt⟩ := hrel
        have hck := hxt.cell hck0 nb
        by_cases htl : t < l.length
        · obtain rfl := hr.addr (by omega)
          have hcl := (hr.keep hxt nb1).intCell t htl
          have hd1 : decide (t < l.length) = true := by simp; omega
          have hlow2 : Hid (∀ q (h : q < l.length), q < t + 1 → l[t] < u → l[q] < u) := fun q h hq hlt' => by
            by_cases hqt : q = t
            · subst hqt; exact hlt'
            · exact hlow.out q h (by omega)
          by_cases hlu : l[t] < u
          · have hd2 : decide (l[t] < u) = true := by simp [hlu]
            go_wp2_with fail
            go_quiet (fail)
            refine gen_then ?_
            intro wz hz
            go_wp2_with fail
            go_roundw
            case rel => exact ⟨t + 1, by omega, by go_num, fun q h hq => hlow2.out q h hq hlu, hxt.trans hz (fun _ _ h => h)⟩
            case measure => simp [intOf]; omega
          · have hd2 : decide (l[t] < u) = false := by simp; omega
            have hd3 : ((t : Int) == (l.length : Int)) = false := by simp; omega
            go_wp2_with fail
            go_quiet (fail)
            refine gen_then ?_
            intro wz hz
            have hcl' := hz.cell hcl nb
            have hck' := hz.cell hck nb
            clear hcl hck
            by_cases heq : l[t] = u
            · have hd4 : (l[t] != u) = false := by simp [heq]
              go_wp2_with fail
              go_quiet (fail)
              refine gen_then ?_
              intro wy hy
              go_wp2_with fail
              go_roundw
              case rel =>
                refine ⟨k + 1, g, l, by omega, by go_num, ((hO.keep hxt (fun _ _ => nb)).keep hz (fun _ _ => nb)).keep hy (fun _ _ => nb), ?_, by omega, hg, ((hext.trans hxt (fun _ _ h => h)).trans hz (fun _ _ h => h)).trans hy (fun _ _ h => h)⟩
                refine hs.congr (fun x => ?_)
                rw [htk.out, List.mem_append, List.mem_singleton]
                exact ⟨.inl, fun h => h.elim id (fun h => by rw [h, ← heq]; exact (hs.2 _).1 (List.getElem_mem htl))⟩
              case measure => simp [intOf]; omega
            · have hd4 : (l[t] != u) = true := by simp [heq]
              go_wp2_with fail
              go_quiet (fail)
              refine gen_then ?_
              intro wy hy
              go_wp2_with fail
              have hcky := hy.cell hck' nb
              have hry := ((hr.keep hxt nb1).keep hz nb1).keep hy nb1
              have hszy := hy.size
              have hszz := hz.size
              have hszt := hxt.size
              have hbw := hblt (by omega)
              have hti : (t : Int) ≤ (c1 : Int) := by omega
              have htn : t ≤ c1 := by omega
              have hct : ¬ c1 = t := by omega
              clear hck' hcl' hd2 hd3 hd4
              have k1 : (wy.alloc (.cells #[] 3)).heap[wy.heap.size]? = some (.cells #[] 3) := alloc_at wy _
              have k2 : ((wy.alloc (.cells #[] 3)).alloc (.cells #[.int .i64 u] 3)).heap[wy.heap.size]? = some (.cells #[] 3) := ((Ext.refl NoB _).alloc _).keep (alloc_at wy _) nb
              have k3 : ((wy.alloc (.cells #[.int .i64 u] 3)).alloc (.cells #[] 3)).heap[wy.heap.size + 1]? = some (.cells #[] 3) := alloc_at' _ _ _ (by simp)
              have m1 : ((wy.alloc (.cells #[] 3)).alloc (.cells #[.int .i64 u] 3)).heap[wy.heap.size + 1]? = some (.cells #[.int .i64 u] 3) := alloc_at' _ _ _ (by simp)
              have m2 : ((wy.alloc (.cells #[.int .i64 u] 3)).alloc (.cells #[] 3)).heap[wy.heap.size]? = some (.cells #[.int .i64 u] 3) := ((Ext.refl NoB _).alloc _).keep (alloc_at wy _) nb
              have hhigh : Hid (∀ q (h : q < l.length), t ≤ q → u < l[q]) := fun q h hq => by
                have h1 : u < l[t] := by omega
                by_cases hqt : q = t
                · subst hqt; exact h1
                · have := List.pairwise_iff_getElem.1 hs.1 t q htl h (by omega)
                  omega
              have q1 : (([] : List Int).length + (l.take t).length) * 8 ≤ 140737488355328 := by rw [List.length_take, List.length_nil]; omega
              have q2 : ([] : List Int).length + (l.take t).length ≤ maxLen := by rw [List.length_take, List.length_nil]; unfold maxLen; omega
              have q3 : t = (l.take t).length := by rw [List.length_take]; omega
              have q4 : (([] ++ l.take t).length + [u].length) * 8 ≤ 140737488355328 := by simp; omega
              have q5 : ([] ++ l.take t).length + [u].length ≤ maxLen := by unfold maxLen; simp; omega
              have q6 : (([] ++ l.take t ++ [u]).length + (l.drop t).length) * 8 ≤ 140737488355328 := by simp; omega
              have q7 : ([] ++ l.take t ++ [u]).length + (l.drop t).length ≤ maxLen := by unfold maxLen; simp; omega
              have q8 : l.length - t = (l.drop t).length := by rw [List.length_drop]
              have z1 : ¬ some wy.heap.size = some (wy.heap.size + 1) := some_ne (by omega)
              have z2 : ¬ some (wy.heap.size + 1) = some wy.heap.size := some_ne (by omega)
              have q1 := Lib.hid q1
              have q3' := Lib.hid q3
              have q8' := Lib.hid q8
              clear q3 q8
              go_region_held3 (fun w' => w'.cell? ⟨b, o + k, none⟩ = some (.int .i64 u) ∧ Ext NoB wy w') (first
                | exact ⟨hcky, (Ext.refl NoB wy).drew⟩
                | (go_split_ands; refine ⟨Ext.cell ((Ext.refl NoB _).alloc _) (by assumption) nb, Ext.alloc (by assumption) _⟩)
                | exact ⟨hE58.cell hcky nb, hE58⟩
                | exact ⟨hE54.cell hcky nb, hE54⟩
                | exact ⟨hE48.cell hcky nb, hE48⟩) (first
                | (refine step_appendW wy 24 8 elem_int intE_len intE_one g54 v54 ([] ++ l.take t ++ [u]) (l.drop t) (.tmp 54) (.tmp 57) (some ⟨b1, o1 + t, none⟩) (c1 - t) b1 (o1 + t) (l.length - t) q6 q7 q8'.out hq54 ?_ ?_ ?_ ?_ ?_ ?_ ?_ ?_
                   rfl
                   rfl
                   rfl
                   rfl
                   (go_split_ands; assumption)
                   (first | exact hO54 | exact hO54.keep (F := NoB) (Ext.refl NoB w54).drew (fun _ _ => nb))
                   (refine (SlR.keep hry ?_ nb1).drop (n := t) intE_len ht (fun _ => rfl); go_split_ands; assumption)
                   intro v58 w58 g58 hO58 hx58 hE58 hq58)
                | (refine step_appendW wy 24 8 elem_int intE_len intE_one g48 v48 ([] ++ l.take t) [u] (.tmp 48) (.tmp 53) (some ⟨w48.heap.size, 0, none⟩) 1 (w48.heap.size) 0 1 q4 q5 rfl hq48 ?_ ?_ ?_ ?_ ?_ ?_ ?_ ?_
                   rfl
                   rfl
                   rfl
                   rfl
                   (go_split_ands; assumption)
                   (first | exact hO48 | exact hO48.keep (F := NoB) ((Ext.refl NoB w48).alloc _) (fun _ _ => nb) | exact hO48.keep (F := NoB) (Ext.refl NoB w48).drew (fun _ _ => nb) | exact hO48.keep (F := NoB) ((Ext.refl NoB w48).alloc _).drew (fun _ _ => nb))
                   (refine SlR.one' (E := 3) (fr := (0, 0)) (cs := #[.int .i64 u]) ?_ rfl; first | exact alloc_at w48 _ | exact hx48.keep m1 z1 | exact hx48.keep m2 z2)
                   intro v54 w54 g54 hO54 hx54 hE54 hq54)
                | (refine step_appendW wy 24 8 elem_int intE_len intE_one g48 v48 ([] ++ l.take t) [u] (.tmp 48) (.tmp 53) (some ⟨wy.heap.size, 0, none⟩) 1 (wy.heap.size) 0 1 q4 q5 rfl hq48 ?_ ?_ ?_ ?_ ?_ ?_ ?_ ?_
                   rfl
                   rfl
                   rfl
                   rfl
                   (go_split_ands; assumption)
                   (first | exact hO48 | exact hO48.keep (F := NoB) ((Ext.refl NoB w48).alloc _) (fun _ _ => nb) | exact hO48.keep (F := NoB) (Ext.refl NoB w48).drew (fun _ _ => nb) | exact hO48.keep (F := NoB) ((Ext.refl NoB w48).alloc _).drew (fun _ _ => nb))
                   (refine SlR.one' (E := 3) (fr := (0, 0)) (cs := #[.int .i64 u]) ?_ rfl; first | exact alloc_at w48 _ | exact hx48.keep m1 z1 | exact hx48.keep m2 z2)
                   intro v54 w54 g54 hO54 hx54 hE54 hq54)
                | (refine step_appendW wy 24 8 elem_int intE_len intE_one g48 v48 ([] ++ l.take t) [u] (.tmp 48) (.tmp 53) (some ⟨wy.heap.size + 1, 0, none⟩) 1 (wy.heap.size + 1) 0 1 q4 q5 rfl hq48 ?_ ?_ ?_ ?_ ?_ ?_ ?_ ?_
                   rfl
                   rfl
                   rfl
                   rfl
                   (go_split_ands; assumption)
                   (first | exact hO48 | exact hO48.keep (F := NoB) ((Ext.refl NoB w48).alloc _) (fun _ _ => nb) | exact hO48.keep (F := NoB) (Ext.refl NoB w48).drew (fun _ _ => nb) | exact hO48.keep (F := NoB) ((Ext.refl NoB w48).alloc _).drew (fun _ _ => nb))
                   (refine SlR.one' (E := 3) (fr := (0, 0)) (cs := #[.int .i64 u]) ?_ rfl; first | exact alloc_at w48 _ | exact hx48.keep m1 z1 | exact hx48.keep m2 z2)
                   intro v54 w54 g54 hO54 hx54 hE54 hq54)
                | (refine step_appendW wy 24 8 elem_int intE_len intE_one (some (wy.heap.size)) (.slice (some ⟨wy.heap.size, 0, none⟩) 0 0) [] (l.take t) (.tmp 44) (.tmp 47) (some ⟨b1, o1, none⟩) c1 b1 o1 t q1.out q2 q3'.out (ne_own (by omega)) ?_ ?_ ?_ ?_ ?_ ?_ ?_ ?_
                   rfl
                   rfl
                   rfl
                   rfl
                   (go_split_ands; assumption)
                   (refine SlO.made (b := wy.heap.size) (xs := ([] : List Int)) (cs := #[]) ?_ rfl intE_len (Nat.zero_le _); first | exact k1 | exact k2 | exact k3)
                   (refine (SlR.keep hry ?_ nb1).take intE_len ht; go_split_ands; assumption)
                   intro v48 w48 g48 hO48 hx48 hE48 hq48)
                | (refine step_appendW wy 24 8 elem_int intE_len intE_one (some (wy.heap.size + 1)) (.slice (some ⟨wy.heap.size + 1, 0, none⟩) 0 0) [] (l.take t) (.tmp 44) (.tmp 47) (some ⟨b1, o1, none⟩) c1 b1 o1 t q1.out q2 q3'.out (ne_own (by omega)) ?_ ?_ ?_ ?_ ?_ ?_ ?_ ?_
                   rfl
                   rfl
                   rfl
                   rfl
                   (go_split_ands; assumption)
                   (refine SlO.made (b := wy.heap.size + 1) (xs := ([] : List Int)) (cs := #[]) ?_ rfl intE_len (Nat.zero_le _); first | exact k1 | exact k2 | exact k3)
                   (refine (SlR.keep hry ?_ nb1).take intE_len ht; go_split_ands; assumption)
                   intro v48 w48 g48 hO48 hx48 hE48 hq48))
              all_goals
                go_wp2_with fail
                go_roundw
                case rel =>
                  refine ⟨k + 1, g58, [] ++ l.take t ++ [u] ++ l.drop t, by omega, by go_num, ?_, (ins_set hs hlow.out hhigh.out).congr (fun x => by rw [htk.out, List.mem_append, List.mem_singleton]), by simp; omega, fun q hq => by have := hq58 q hq; omega, ?_⟩
                  · first | exact hO58 | exact hO58.keep (F := NoB) (Ext.refl NoB w58).drew (fun _ _ => nb)
                  · have hEa := ((hext.trans hxt (fun _ _ h => h)).trans hz (fun _ _ h => h)).trans hy (fun _ _ h => h)
                    first | exact hEa.trans hE58 (fun _ _ h => h) | exact (hEa.trans hE58 (fun _ _ h => h)).drew
                case measure => simp [intOf]; omega
        · have hte : t = l.length := by omega
          have hnlt : ¬ t < l.length := htl
          have hnlt' := Lib.hid hnlt
          have hte' := Lib.hid hte
          have hd1 : decide (t < l.length) = false := by simp; omega
          have hd3 : ((t : Int) == (l.length : Int)) = true := by simp; omega
          have q9 : Hid (0 = (l.drop t).length) := by show _ = _; rw [List.length_drop]; omega
          have q10 : Hid (l.drop t = []) := List.eq_nil_of_length_eq_zero (by rw [List.length_drop]; omega)
          clear hte hnlt htl
          have hhigh : Hid (∀ q (h : q < l.length), t ≤ q → u < l[q]) := fun q h hq => absurd h (by rw [← hte'.out]; omega)
          go_wp2_with fail
          go_quiet (fail)
          refine gen_then ?_
          intro wz hz
          have hck' := hz.cell hck nb
          clear hck
          go_wp2_with fail
          go_quiet (fail)
          refine gen_then ?_
          intro wy hy
          go_wp2_with fail
          rcases hO.get with hn | ⟨b2, o2, c2, hn⟩
          · simp only [Value.slice.injEq] at hn
            obtain ⟨rfl, hn1, rfl⟩ := hn
            obtain rfl : l = [] := List.eq_nil_of_length_eq_zero hn1
            obtain rfl : t = 0 := by simpa using hte'.out
            clear hn1
            have hcky := hy.cell hck' nb
            have hry := ((hr.keep hxt nb1).keep hz nb1).keep hy nb1
            have hszy := hy.size
            have hszz := hz.size
            have hszt := hxt.size
            have hbw := hblt (by omega)
            have hti : (0 : Int) ≤ (0 : Int) := by omega
            have htn : 0 ≤ 0 := by omega
            clear hck' hd1 hd3
            have k1 : (wy.alloc (.cells #[] 3)).heap[wy.heap.size]? = some (.cells #[] 3) := alloc_at wy _
            have k2 : ((wy.alloc (.cells #[] 3)).alloc (.cells #[.int .i64 u] 3)).heap[wy.heap.size]? = some (.cells #[] 3) := ((Ext.refl NoB _).alloc _).keep (alloc_at wy _) nb
            have k3 : ((wy.alloc (.cells #[.int .i64 u] 3)).alloc (.cells #[] 3)).heap[wy.heap.size + 1]? = some (.cells #[] 3) := alloc_at' _ _ _ (by simp)
            have m1 : ((wy.alloc (.cells #[] 3)).alloc (.cells #[.int .i64 u] 3)).heap[wy.heap.size + 1]? = some (.cells #[.int .i64 u] 3) := alloc_at' _ _ _ (by simp)
            have m2 : ((wy.alloc (.cells #[.int .i64 u] 3)).alloc (.cells #[] 3)).heap[wy.heap.size]? = some (.cells #[.int .i64 u] 3) := ((Ext.refl NoB _).alloc _).keep (alloc_at wy _) nb
            have q1 : (([] : List Int).length + (([] : List Int).take 0).length) * 8 ≤ 140737488355328 := by rw [List.length_take, List.length_nil]; omega
            have q2 : ([] : List Int).length + (([] : List Int).take 0).length ≤ maxLen := by rw [List.length_take, List.length_nil]; unfold maxLen; omega
            have q3 : 0 = (([] : List Int).take 0).length := by rw [List.length_take]; omega
            have q4 : (([] ++ ([] : List Int).take 0).length + [u].length) * 8 ≤ 140737488355328 := by simp <;> omega
            have q5 : ([] ++ ([] : List Int).take 0).length + [u].length ≤ maxLen := by unfold maxLen; simp <;> omega
            have q6 : (([] ++ ([] : List Int).take 0 ++ [u]).length + (([] : List Int).drop 0).length) * 8 ≤ 140737488355328 := by simp <;> omega
            have q7 : ([] ++ ([] : List Int).take 0 ++ [u]).length + (([] : List Int).drop 0).length ≤ maxLen := by unfold maxLen; simp <;> omega
            have q8 : ([] : List Int).length - 0 = (([] : List Int).drop 0).length := by rw [List.length_drop]
            have z1 : ¬ some wy.heap.size = some (wy.heap.size + 1) := some_ne (by omega)
            have z2 : ¬ some (wy.heap.size + 1) = some wy.heap.size := some_ne (by omega)
            have q1 := Lib.hid q1
            have q3' := Lib.hid q3
            have q8' := Lib.hid q8
            clear q3 q8
            go_region_held3 (fun w' => w'.cell? ⟨b, o + k, none⟩ = some (.int .i64 u) ∧ Ext NoB wy w') (first
              | exact ⟨hcky, (Ext.refl NoB wy).drew⟩
              | (go_split_ands; refine ⟨Ext.cell ((Ext.refl NoB _).alloc _) (by assumption) nb, Ext.alloc (by assumption) _⟩)
              | exact ⟨hE58.cell hcky nb, hE58⟩
              | exact ⟨hE54.cell hcky nb, hE54⟩
              | exact ⟨hE48.cell hcky nb, hE48⟩) (first
              | (refine step_appendW wy 24 8 elem_int intE_len intE_one g54 v54 ([] ++ ([] : List Int).take 0 ++ [u]) (([] : List Int).drop 0) (.tmp 54) (.tmp 57) (none) 0 b1 (o1 + 0) 0 q6 q7 q9.out hq54 ?_ ?_ ?_ ?_ ?_ ?_ ?_ ?_
                 rfl
                 rfl
                 rfl
                 rfl
                 (go_split_ands; assumption)
                 (first | exact hO54 | exact hO54.keep (F := NoB) (Ext.refl NoB w54).drew (fun _ _ => nb))
                 exact slR_nil q10.out (by simp [maxLen])
                 intro v58 w58 g58 hO58 hx58 hE58 hq58)
              | (refine step_appendW wy 24 8 elem_int intE_len intE_one g48 v48 ([] ++ ([] : List Int).take 0) [u] (.tmp 48) (.tmp 53) (some ⟨w48.heap.size, 0, none⟩) 1 (w48.heap.size) 0 1 q4 q5 rfl hq48 ?_ ?_ ?_ ?_ ?_ ?_ ?_ ?_
                 rfl
                 rfl
                 rfl
                 rfl
                 (go_split_ands; assumption)
                 (first | exact hO48 | exact hO48.keep (F := NoB) ((Ext.refl NoB w48).alloc _) (fun _ _ => nb) | exact hO48.keep (F := NoB) (Ext.refl NoB w48).drew (fun _ _ => nb) | exact hO48.keep (F := NoB) ((Ext.refl NoB w48).alloc _).drew (fun _ _ => nb))
                 (refine SlR.one' (E := 3) (fr := (0, 0)) (cs := #[.int .i64 u]) ?_ rfl; first | exact alloc_at w48 _ | exact hx48.keep m1 z1 | exact hx48.keep m2 z2)
                 intro v54 w54 g54 hO54 hx54 hE54 hq54)
              | (refine step_appendW wy 24 8 elem_int intE_len intE_one g48 v48 ([] ++ ([] : List Int).take 0) [u] (.tmp 48) (.tmp 53) (some ⟨wy.heap.size, 0, none⟩) 1 (wy.heap.size) 0 1 q4 q5 rfl hq48 ?_ ?_ ?_ ?_ ?_ ?_ ?_ ?_
                 rfl
                 rfl
                 rfl
                 rfl
                 (go_split_ands; assumption)
                 (first | exact hO48 | exact hO48.keep (F := NoB) ((Ext.refl NoB w48).alloc _) (fun _ _ => nb) | exact hO48.keep (F := NoB) (Ext.refl NoB w48).drew (fun _ _ => nb) | exact hO48.keep (F := NoB) ((Ext.refl NoB w48).alloc _).drew (fun _ _ => nb))
                 (refine SlR.one' (E := 3) (fr := (0, 0)) (cs := #[.int .i64 u]) ?_ rfl; first | exact alloc_at w48 _ | exact hx48.keep m1 z1 | exact hx48.keep m2 z2)
                 intro v54 w54 g54 hO54 hx54 hE54 hq54)
              | (refine step_appendW wy 24 8 elem_int intE_len intE_one g48 v48 ([] ++ ([] : List Int).take 0) [u] (.tmp 48) (.tmp 53) (some ⟨wy.heap.size + 1, 0, none⟩) 1 (wy.heap.size + 1) 0 1 q4 q5 rfl hq48 ?_ ?_ ?_ ?_ ?_ ?_ ?_ ?_
                 rfl
                 rfl
                 rfl
                 rfl
                 (go_split_ands; assumption)
                 (first | exact hO48 | exact hO48.keep (F := NoB) ((Ext.refl NoB w48).alloc _) (fun _ _ => nb) | exact hO48.keep (F := NoB) (Ext.refl NoB w48).drew (fun _ _ => nb) | exact hO48.keep (F := NoB) ((Ext.refl NoB w48).alloc _).drew (fun _ _ => nb))
                 (refine SlR.one' (E := 3) (fr := (0, 0)) (cs := #[.int .i64 u]) ?_ rfl; first | exact alloc_at w48 _ | exact hx48.keep m1 z1 | exact hx48.keep m2 z2)
                 intro v54 w54 g54 hO54 hx54 hE54 hq54)
              | (refine step_appendW wy 24 8 elem_int intE_len intE_one (some (wy.heap.size)) (.slice (some ⟨wy.heap.size, 0, none⟩) 0 0) [] (([] : List Int).take 0) (.tmp 44) (.tmp 47) (none) 0 b1 o1 0 q1.out q2 q3'.out (ne_own (by omega)) ?_ ?_ ?_ ?_ ?_ ?_ ?_ ?_
                 rfl
                 rfl
                 rfl
                 rfl
                 (go_split_ands; assumption)
                 (refine SlO.made (b := wy.heap.size) (xs := ([] : List Int)) (cs := #[]) ?_ rfl intE_len (Nat.zero_le _); first | exact k1 | exact k2 | exact k3)
                 exact slR_nil rfl (by simp [maxLen])
                 intro v48 w48 g48 hO48 hx48 hE48 hq48)
              | (refine step_appendW wy 24 8 elem_int intE_len intE_one (some (wy.heap.size + 1)) (.slice (some ⟨wy.heap.size + 1, 0, none⟩) 0 0) [] (([] : List Int).take 0) (.tmp 44) (.tmp 47) (none) 0 b1 o1 0 q1.out q2 q3'.out (ne_own (by omega)) ?_ ?_ ?_ ?_ ?_ ?_ ?_ ?_
                 rfl
                 rfl
                 rfl
                 rfl
                 (go_split_ands; assumption)
                 (refine SlO.made (b := wy.heap.size + 1) (xs := ([] : List Int)) (cs := #[]) ?_ rfl intE_len (Nat.zero_le _); first | exact k1 | exact k2 | exact k3)
                 exact slR_nil rfl (by simp [maxLen])
                 intro v48 w48 g48 hO48 hx48 hE48 hq48))
            all_goals
              go_wp2_with fail
              go_roundw
              case rel =>
                refine ⟨k + 1, g58, [] ++ ([] : List Int).take 0 ++ [u] ++ ([] : List Int).drop 0, by omega, by go_num, ?_, (ins_set hs hlow.out hhigh.out).congr (fun x => by rw [htk.out, List.mem_append, List.mem_singleton]), by simp <;> omega, fun q hq => by have := hq58 q hq; omega, ?_⟩
                · first | exact hO58 | exact hO58.keep (F := NoB) (Ext.refl NoB w58).drew (fun _ _ => nb)
                · have hEa := ((hext.trans hxt (fun _ _ h => h)).trans hz (fun _ _ h => h)).trans hy (fun _ _ h => h)
                  first | exact hEa.trans hE58 (fun _ _ h => h) | exact (hEa.trans hE58 (fun _ _ h => h)).drew
              case measure => simp [intOf]; omega
          · simp only [Value.slice.injEq] at hn
            obtain ⟨rfl, _, rfl⟩ := hn
            by_cases hcc : c1 = t
            · obtain rfl : t = c1 := hcc.symm
              have hcky := hy.cell hck' nb
              have hry := ((hr.keep hxt nb1).keep hz nb1).keep hy nb1
              have hszy := hy.size
              have hszz := hz.size
              have hszt := hxt.size
              have hbw := hblt (by omega)
              have hti : (t : Int) ≤ (t : Int) := by omega
              have htn : t ≤ t := by omega
              clear hck' hd1 hd3
              have k1 : (wy.alloc (.cells #[] 3)).heap[wy.heap.size]? = some (.cells #[] 3) := alloc_at wy _
              have k2 : ((wy.alloc (.cells #[] 3)).alloc (.cells #[.int .i64 u] 3)).heap[wy.heap.size]? = some (.cells #[] 3) := ((Ext.refl NoB _).alloc _).keep (alloc_at wy _) nb
              have k3 : ((wy.alloc (.cells #[.int .i64 u] 3)).alloc (.cells #[] 3)).heap[wy.heap.size + 1]? = some (.cells #[] 3) := alloc_at' _ _ _ (by simp)
              have m1 : ((wy.alloc (.cells #[] 3)).alloc (.cells #[.int .i64 u] 3)).heap[wy.heap.size + 1]? = some (.cells #[.int .i64 u] 3) := alloc_at' _ _ _ (by simp)
              have m2 : ((wy.alloc (.cells #[.int .i64 u] 3)).alloc (.cells #[] 3)).heap[wy.heap.size]? = some (.cells #[.int .i64 u] 3) := ((Ext.refl NoB _).alloc _).keep (alloc_at wy _) nb
              have q1 : (([] : List Int).length + (l.take t).length) * 8 ≤ 140737488355328 := by rw [List.length_take, List.length_nil]; omega
              have q2 : ([] : List Int).length + (l.take t).length ≤ maxLen := by rw [List.length_take, List.length_nil]; unfold maxLen; omega
              have q3 : t = (l.take t).length := by rw [List.length_take]; omega
              have q4 : (([] ++ l.take t).length + [u].length) * 8 ≤ 140737488355328 := by simp; omega
              have q5 : ([] ++ l.take t).length + [u].length ≤ maxLen := by unfold maxLen; simp; omega
              have q6 : (([] ++ l.take t ++ [u]).length + (l.drop t).length) * 8 ≤ 140737488355328 := by simp; omega
              have q7 : ([] ++ l.take t ++ [u]).length + (l.drop t).length ≤ maxLen := by unfold maxLen; simp; omega
              have q8 : l.length - t = (l.drop t).length := by rw [List.length_drop]
              have z1 : ¬ some wy.heap.size = some (wy.heap.size + 1) := some_ne (by omega)
              have z2 : ¬ some (wy.heap.size + 1) = some wy.heap.size := some_ne (by omega)
              have q1 := Lib.hid q1
              have q3' := Lib.hid q3
              have q8' := Lib.hid q8
              clear q3 q8
              go_region_held3 (fun w' => w'.cell? ⟨b, o + k, none⟩ = some (.int .i64 u) ∧ Ext NoB wy w') (first
                | exact ⟨hcky, (Ext.refl NoB wy).drew⟩
                | (go_split_ands; refine ⟨Ext.cell ((Ext.refl NoB _).alloc _) (by assumption) nb, Ext.alloc (by assumption) _⟩)
                | exact ⟨hE58.cell hcky nb, hE58⟩
                | exact ⟨hE54.cell hcky nb, hE54⟩
                | exact ⟨hE48.cell hcky nb, hE48⟩) (first
                | (refine step_appendW wy 24 8 elem_int intE_len intE_one g54 v54 ([] ++ l.take t ++ [u]) (l.drop t) (.tmp 54) (.tmp 57) (some ⟨b2, o2, none⟩) 0 b1 (o1 + t) 0 q6 q7 q9.out hq54 ?_ ?_ ?_ ?_ ?_ ?_ ?_ ?_
                   rfl
                   rfl
                   rfl
                   rfl
                   (go_split_ands; assumption)
                   (first | exact hO54 | exact hO54.keep (F := NoB) (Ext.refl NoB w54).drew (fun _ _ => nb))
                   exact slR_nil q10.out (by simp [maxLen])
                   intro v58 w58 g58 hO58 hx58 hE58 hq58)
                | (refine step_appendW wy 24 8 elem_int intE_len intE_one g48 v48 ([] ++ l.take t) [u] (.tmp 48) (.tmp 53) (some ⟨w48.heap.size, 0, none⟩) 1 (w48.heap.size) 0 1 q4 q5 rfl hq48 ?_ ?_ ?_ ?_ ?_ ?_ ?_ ?_
                   rfl
                   rfl
                   rfl
                   rfl
                   (go_split_ands; assumption)
                   (first | exact hO48 | exact hO48.keep (F := NoB) ((Ext.refl NoB w48).alloc _) (fun _ _ => nb) | exact hO48.keep (F := NoB) (Ext.refl NoB w48).drew (fun _ _ => nb) | exact hO48.keep (F := NoB) ((Ext.refl NoB w48).alloc _).drew (fun _ _ => nb))
                   (refine SlR.one' (E := 3) (fr := (0, 0)) (cs := #[.int .i64 u]) ?_ rfl; first | exact alloc_at w48 _ | exact hx48.keep m1 z1 | exact hx48.keep m2 z2)
                   intro v54 w54 g54 hO54 hx54 hE54 hq54)
                | (refine step_appendW wy 24 8 elem_int intE_len intE_one g48 v48 ([] ++ l.take t) [u] (.tmp 48) (.tmp 53) (some ⟨wy.heap.size, 0, none⟩) 1 (wy.heap.size) 0 1 q4 q5 rfl hq48 ?_ ?_ ?_ ?_ ?_ ?_ ?_ ?_
                   rfl
                   rfl
                   rfl
                   rfl
                   (go_split_ands; assumption)
                   (first | exact hO48 | exact hO48.keep (F := NoB) ((Ext.refl NoB w48).alloc _) (fun _ _ => nb) | exact hO48.keep (F := NoB) (Ext.refl NoB w48).drew (fun _ _ => nb) | exact hO48.keep (F := NoB) ((Ext.refl NoB w48).alloc _).drew (fun _ _ => nb))
                   (refine SlR.one' (E := 3) (fr := (0, 0)) (cs := #[.int .i64 u]) ?_ rfl; first | exact alloc_at w48 _ | exact hx48.keep m1 z1 | exact hx48.keep m2 z2)
                   intro v54 w54 g54 hO54 hx54 hE54 hq54)
                | (refine step_appendW wy 24 8 elem_int intE_len intE_one g48 v48 ([] ++ l.take t) [u] (.tmp 48) (.tmp 53) (some ⟨wy.heap.size + 1, 0, none⟩) 1 (wy.heap.size + 1) 0 1 q4 q5 rfl hq48 ?_ ?_ ?_ ?_ ?_ ?_ ?_ ?_
                   rfl
                   rfl
                   rfl
                   rfl
                   (go_split_ands; assumption)
                   (first | exact hO48 | exact hO48.keep (F := NoB) ((Ext.refl NoB w48).alloc _) (fun _ _ => nb) | exact hO48.keep (F := NoB) (Ext.refl NoB w48).drew (fun _ _ => nb) | exact hO48.keep (F := NoB) ((Ext.refl NoB w48).alloc _).drew (fun _ _ => nb))
                   (refine SlR.one' (E := 3) (fr := (0, 0)) (cs := #[.int .i64 u]) ?_ rfl; first | exact alloc_at w48 _ | exact hx48.keep m1 z1 | exact hx48.keep m2 z2)
                   intro v54 w54 g54 hO54 hx54 hE54 hq54)
                | (refine step_appendW wy 24 8 elem_int intE_len intE_one (some (wy.heap.size)) (.slice (some ⟨wy.heap.size, 0, none⟩) 0 0) [] (l.take t) (.tmp 44) (.tmp 47) (some ⟨b2, o2, none⟩) t b1 o1 t q1.out q2 q3'.out (ne_own (by omega)) ?_ ?_ ?_ ?_ ?_ ?_ ?_ ?_
                   rfl
                   rfl
                   rfl
                   rfl
                   (go_split_ands; assumption)
                   (refine SlO.made (b := wy.heap.size) (xs := ([] : List Int)) (cs := #[]) ?_ rfl intE_len (Nat.zero_le _); first | exact k1 | exact k2 | exact k3)
                   (refine (SlR.keep hry ?_ nb1).take intE_len ht; go_split_ands; assumption)
                   intro v48 w48 g48 hO48 hx48 hE48 hq48)
                | (refine step_appendW wy 24 8 elem_int intE_len intE_one (some (wy.heap.size + 1)) (.slice (some ⟨wy.heap.size + 1, 0, none⟩) 0 0) [] (l.take t) (.tmp 44) (.tmp 47) (some ⟨b2, o2, none⟩) t b1 o1 t q1.out q2 q3'.out (ne_own (by omega)) ?_ ?_ ?_ ?_ ?_ ?_ ?_ ?_
                   rfl
                   rfl
                   rfl
                   rfl
                   (go_split_ands; assumption)
                   (refine SlO.made (b := wy.heap.size + 1) (xs := ([] : List Int)) (cs := #[]) ?_ rfl intE_len (Nat.zero_le _); first | exact k1 | exact k2 | exact k3)
                   (refine (SlR.keep hry ?_ nb1).take intE_len ht; go_split_ands; assumption)
                   intro v48 w48 g48 hO48 hx48 hE48 hq48))
              all_goals
                go_wp2_with fail
                go_roundw
                case rel =>
                  refine ⟨k + 1, g58, [] ++ l.take t ++ [u] ++ l.drop t, by omega, by go_num, ?_, (ins_set hs hlow.out hhigh.out).congr (fun x => by rw [htk.out, List.mem_append, List.mem_singleton]), by simp; omega, fun q hq => by have := hq58 q hq; omega, ?_⟩
                  · first | exact hO58 | exact hO58.keep (F := NoB) (Ext.refl NoB w58).drew (fun _ _ => nb)
                  · have hEa := ((hext.trans hxt (fun _ _ h => h)).trans hz (fun _ _ h => h)).trans hy (fun _ _ h => h)
                    first | exact hEa.trans hE58 (fun _ _ h => h) | exact (hEa.trans hE58 (fun _ _ h => h)).drew
                case measure => simp [intOf]; omega
            · have hcky := hy.cell hck' nb
              have hry := ((hr.keep hxt nb1).keep hz nb1).keep hy nb1
              have hszy := hy.size
              have hszz := hz.size
              have hszt := hxt.size
              have hbw := hblt (by omega)
              have hti : (t : Int) ≤ (c1 : Int) := by omega
              have htn : t ≤ c1 := by omega
              clear hck' hd1 hd3
              have k1 : (wy.alloc (.cells #[] 3)).heap[wy.heap.size]? = some (.cells #[] 3) := alloc_at wy _
              have k2 : ((wy.alloc (.cells #[] 3)).alloc (.cells #[.int .i64 u] 3)).heap[wy.heap.size]? = some (.cells #[] 3) := ((Ext.refl NoB _).alloc _).keep (alloc_at wy _) nb
              have k3 : ((wy.alloc (.cells #[.int .i64 u] 3)).alloc (.cells #[] 3)).heap[wy.heap.size + 1]? = some (.cells #[] 3) := alloc_at' _ _ _ (by simp)
              have m1 : ((wy.alloc (.cells #[] 3)).alloc (.cells #[.int .i64 u] 3)).heap[wy.heap.size + 1]? = some (.cells #[.int .i64 u] 3) := alloc_at' _ _ _ (by simp)
              have m2 : ((wy.alloc (.cells #[.int .i64 u] 3)).alloc (.cells #[] 3)).heap[wy.heap.size]? = some (.cells #[.int .i64 u] 3) := ((Ext.refl NoB _).alloc _).keep (alloc_at wy _) nb
              have q1 : (([] : List Int).length + (l.take t).length) * 8 ≤ 140737488355328 := by rw [List.length_take, List.length_nil]; omega
              have q2 : ([] : List Int).length + (l.take t).length ≤ maxLen := by rw [List.length_take, List.length_nil]; unfold maxLen; omega
              have q3 : t = (l.take t).length := by rw [List.length_take]; omega
              have q4 : (([] ++ l.take t).length + [u].length) * 8 ≤ 140737488355328 := by simp; omega
              have q5 : ([] ++ l.take t).length + [u].length ≤ maxLen := by unfold maxLen; simp; omega
              have q6 : (([] ++ l.take t ++ [u]).length + (l.drop t).length) * 8 ≤ 140737488355328 := by simp; omega
              have q7 : ([] ++ l.take t ++ [u]).length + (l.drop t).length ≤ maxLen := by unfold maxLen; simp; omega
              have q8 : l.length - t = (l.drop t).length := by rw [List.length_drop]
              have z1 : ¬ some wy.heap.size = some (wy.heap.size + 1) := some_ne (by omega)
              have z2 : ¬ some (wy.heap.size + 1) = some wy.heap.size := some_ne (by omega)
              have q1 := Lib.hid q1
              have q3' := Lib.hid q3
              have q8' := Lib.hid q8
              clear q3 q8
              go_region_held3 (fun w' => w'.cell? ⟨b, o + k, none⟩ = some (.int .i64 u) ∧ Ext NoB wy w') (first
                | exact ⟨hcky, (Ext.refl NoB wy).drew⟩
                | (go_split_ands; refine ⟨Ext.cell ((Ext.refl NoB _).alloc _) (by assumption) nb, Ext.alloc (by assumption) _⟩)
                | exact ⟨hE58.cell hcky nb, hE58⟩
                | exact ⟨hE54.cell hcky nb, hE54⟩
                | exact ⟨hE48.cell hcky nb, hE48⟩) (first
                | (refine step_appendW wy 24 8 elem_int intE_len intE_one g54 v54 ([] ++ l.take t ++ [u]) (l.drop t) (.tmp 54) (.tmp 57) (some ⟨b2, o2 + t, none⟩) (c1 - t) b1 (o1 + t) (l.length - t) q6 q7 q8'.out hq54 ?_ ?_ ?_ ?_ ?_ ?_ ?_ ?_
                   rfl
                   rfl
                   rfl
                   rfl
                   (go_split_ands; assumption)
                   (first | exact hO54 | exact hO54.keep (F := NoB) (Ext.refl NoB w54).drew (fun _ _ => nb))
                   (refine (SlR.keep hry ?_ nb1).drop (n := t) intE_len ht (fun h => absurd h hnlt'.out); go_split_ands; assumption)
                   intro v58 w58 g58 hO58 hx58 hE58 hq58)
                | (refine step_appendW wy 24 8 elem_int intE_len intE_one g48 v48 ([] ++ l.take t) [u] (.tmp 48) (.tmp 53) (some ⟨w48.heap.size, 0, none⟩) 1 (w48.heap.size) 0 1 q4 q5 rfl hq48 ?_ ?_ ?_ ?_ ?_ ?_ ?_ ?_
                   rfl
                   rfl
                   rfl
                   rfl
                   (go_split_ands; assumption)
                   (first | exact hO48 | exact hO48.keep (F := NoB) ((Ext.refl NoB w48).alloc _) (fun _ _ => nb) | exact hO48.keep (F := NoB) (Ext.refl NoB w48).drew (fun _ _ => nb) | exact hO48.keep (F := NoB) ((Ext.refl NoB w48).alloc _).drew (fun _ _ => nb))
                   (refine SlR.one' (E := 3) (fr := (0, 0)) (cs := #[.int .i64 u]) ?_ rfl; first | exact alloc_at w48 _ | exact hx48.keep m1 z1 | exact hx48.keep m2 z2)
                   intro v54 w54 g54 hO54 hx54 hE54 hq54)
                | (refine step_appendW wy 24 8 elem_int intE_len intE_one g48 v48 ([] ++ l.take t) [u] (.tmp 48) (.tmp 53) (some ⟨wy.heap.size, 0, none⟩) 1 (wy.heap.size) 0 1 q4 q5 rfl hq48 ?_ ?_ ?_ ?_ ?_ ?_ ?_ ?_
                   rfl
                   rfl
                   rfl
                   rfl
                   (go_split_ands; assumption)
                   (first | exact hO48 | exact hO48.keep (F := NoB) ((Ext.refl NoB w48).alloc _) (fun _ _ => nb) | exact hO48.keep (F := NoB) (Ext.refl NoB w48).drew (fun _ _ => nb) | exact hO48.keep (F := NoB) ((Ext.refl NoB w48).alloc _).drew (fun _ _ => nb))
                   (refine SlR.one' (E := 3) (fr := (0, 0)) (cs := #[.int .i64 u]) ?_ rfl; first | exact alloc_at w48 _ | exact hx48.keep m1 z1 | exact hx48.keep m2 z2)
                   intro v54 w54 g54 hO54 hx54 hE54 hq54)
                | (refine step_appendW wy 24 8 elem_int intE_len intE_one g48 v48 ([] ++ l.take t) [u] (.tmp 48) (.tmp 53) (some ⟨wy.heap.size + 1, 0, none⟩) 1 (wy.heap.size + 1) 0 1 q4 q5 rfl hq48 ?_ ?_ ?_ ?_ ?_ ?_ ?_ ?_
                   rfl
                   rfl
                   rfl
                   rfl
                   (go_split_ands; assumption)
                   (first | exact hO48 | exact hO48.keep (F := NoB) ((Ext.refl NoB w48).alloc _) (fun _ _ => nb) | exact hO48.keep (F := NoB) (Ext.refl NoB w48).drew (fun _ _ => nb) | exact hO48.keep (F := NoB) ((Ext.refl NoB w48).alloc _).drew (fun _ _ => nb))
                   (refine SlR.one' (E := 3) (fr := (0, 0)) (cs := #[.int .i64 u]) ?_ rfl; first | exact alloc_at w48 _ | exact hx48.keep m1 z1 | exact hx48.keep m2 z2)
                   intro v54 w54 g54 hO54 hx54 hE54 hq54)
                | (refine step_appendW wy 24 8 elem_int intE_len intE_one (some (wy.heap.size)) (.slice (some ⟨wy.heap.size, 0, none⟩) 0 0) [] (l.take t) (.tmp 44) (.tmp 47) (some ⟨b2, o2, none⟩) c1 b1 o1 t q1.out q2 q3'.out (ne_own (by omega)) ?_ ?_ ?_ ?_ ?_ ?_ ?_ ?_
                   rfl
                   rfl
                   rfl
                   rfl
                   (go_split_ands; assumption)
                   (refine SlO.made (b := wy.heap.size) (xs := ([] : List Int)) (cs := #[]) ?_ rfl intE_len (Nat.zero_le _); first | exact k1 | exact k2 | exact k3)
                   (refine (SlR.keep hry ?_ nb1).take intE_len ht; go_split_ands; assumption)
                   intro v48 w48 g48 hO48 hx48 hE48 hq48)
                | (refine step_appendW wy 24 8 elem_int intE_len intE_one (some (wy.heap.size + 1)) (.slice (some ⟨wy.heap.size + 1, 0, none⟩) 0 0) [] (l.take t) (.tmp 44) (.tmp 47) (some ⟨b2, o2, none⟩) c1 b1 o1 t q1.out q2 q3'.out (ne_own (by omega)) ?_ ?_ ?_ ?_ ?_ ?_ ?_ ?_
                   rfl
                   rfl
                   rfl
                   rfl
                   (go_split_ands; assumption)
                   (refine SlO.made (b := wy.heap.size + 1) (xs := ([] : List Int)) (cs := #[]) ?_ rfl intE_len (Nat.zero_le _); first | exact k1 | exact k2 | exact k3)
                   (refine (SlR.keep hry ?_ nb1).take intE_len ht; go_split_ands; assumption)
                   intro v48 w48 g48 hO48 hx48 hE48 hq48))
              all_goals
                go_wp2_with fail
                go_roundw
                case rel =>
                  refine ⟨k + 1, g58, [] ++ l.take t ++ [u] ++ l.drop t, by omega, by go_num, ?_, (ins_set hs hlow.out hhigh.out).congr (fun x => by rw [htk.out, List.mem_append, List.mem_singleton]), by simp; omega, fun q hq => by have := hq58 q hq; omega, ?_⟩
                  · first | exact hO58 | exact hO58.keep (F := NoB) (Ext.refl NoB w58).drew (fun _ _ => nb)
                  · have hEa := ((hext.trans hxt (fun _ _ h => h)).trans hz (fun _ _ h => h)).trans hy (fun _ _ h => h)
                    first | exact hEa.trans hE58 (fun _ _ h => h) | exact (hEa.trans hE58 (fun _ _ h => h)).drew
                case measure => simp [intOf]; omega
    · rw [List.take_of_length_le (by omega)] at hs
      go_wp2_with fail
      go_ret
      exact ⟨_, g, l, rfl, hO, hs, by omega, hg, hext⟩

end Go.Proofs.Ytolihdcfhonfgaa
