/- slices.Sorted(maps.Keys(m)) at whole numbers as keys. -/
import Derived.Test.YtolihdcfhonfgaaProg
import Derived.Test.YtolihdcfhonfgaaDagE
import Derived.Test.YtolihdcfhonfgaaIters
import Derived.Lib.SlKeysI
namespace Go.Proofs.Ytolihdcfhonfgaa
open Go.RowKit Go.Maps
open Go.WideElems (Fit rd rg pl)
set_option linter.unusedSimpArgs false
set_option linter.unusedVariables false

theorem rd_int {H : Type} {P : Program} {k e : TypeId} (hk : P.underlying k = some (.int .i64)) (he : P.underlying e = some .bool) (x : Int) (y : Bool) (hw : (Lit.int .i64 x).wf = true) (b : Nat) :
    rd P k (plainElem (H := H) P e) ⟨.int .i64 x, .bool y, b⟩ = some (.int .i64 x, .lit (.bool y)) := by
  simp [rd, keyOf_int_mk hk hw, plainElem_bool he]

theorem owns_of_mapAt {H : Type} {P : Program} {k e : TypeId} (hk : P.underlying k = some (.int .i64)) (he : P.underlying e = some .bool) {w : World} {r : Nat} {m : List (Int × Bool)} (h : MapAt w r (intV .i64) Value.bool m) (hw : ∀ p ∈ m, (Lit.int .i64 p.1).wf = true) (hm : m.length ≤ maxLen) :
    ∃ D0 : DataW H, w.ownsMap P k (plainElem P e) r m.length D0 ∧ (intKeys D0).Perm (m.map (·.1)) ∧ Maps.size D0 = m.length := by
  obtain ⟨es, clock, hb, hE⟩ := h
  have hlen : es.size = m.length := by have := congrArg List.length hE.eq; simpa using this
  have hrd : ∀ x ∈ es.toList, ∃ a y, x.key = .int .i64 a ∧ x.val = .bool y ∧ (a, y) ∈ m := by
    intro x hx
    have : (x.key, x.val) ∈ es.toList.map (fun e => (e.key, e.val)) := List.mem_map.2 ⟨x, hx, rfl⟩
    rw [hE.eq] at this
    obtain ⟨p, hp, hpe⟩ := List.mem_map.1 this
    simp only [Prod.mk.injEq] at hpe
    exact ⟨p.1, p.2, hpe.1.symm, hpe.2.symm, hp⟩
  have hrd2 : ∀ x ∈ es.toList, rd P k (plainElem (H := H) P e) x = some (.int .i64 (match x.key with | .int _ a => a | _ => 0), .lit (.bool (match x.val with | .bool y => y | _ => false))) := by
    intro x hx
    obtain ⟨a, y, h1, h2, h3⟩ := hrd x hx
    obtain ⟨key, val, born⟩ := x
    simp only at h1 h2
    subst h1; subst h2
    exact rd_int hk he a y (hw _ h3) born
  refine ⟨.map ((es.toList.map (rg P k (plainElem (H := H) P e))).foldr DataW.insert []), ⟨es, clock, hb, ⟨by omega, ?_, fun x hx => ⟨_, hrd2 x hx⟩⟩, by omega, rfl⟩, ?_, ?_⟩
  · rw [MapKept.stamped_iff]
    refine ⟨hE.clock, pairwise_nodup hE.born, ?_⟩
    have h1 : (es.toList.map (·.key)).Nodup := by
      have h2 : es.toList.map (·.key) = (m.map (·.1)).map (intV .i64) := by
        have := congrArg (List.map Prod.fst) hE.eq
        simpa [List.map_map, Function.comp_def] using this
      rw [h2]
      have hn := hE.nodup
      rw [List.nodup_iff_pairwise_ne, List.pairwise_map]
      exact (List.nodup_iff_pairwise_ne.1 hn).imp (fun hne e => hne (by injection e))
    rw [List.nodup_iff_pairwise_ne, List.pairwise_map] at h1
    exact h1
  · have h1 : intKeys (H := H) (.map ((es.toList.map (rg P k (plainElem (H := H) P e))).foldr DataW.insert [])) = ((es.toList.map (rg P k (plainElem (H := H) P e))).foldr DataW.insert []).map fun p => Go.intOf p.1 := rfl
    rw [h1]
    refine ((WideShapes.sorted_perm (es.toList.map (rg P k (plainElem (H := H) P e)))).map _).trans ?_
    rw [List.map_map]
    have h2 : es.toList.map ((fun p : Lit × DataW H => Go.intOf p.1) ∘ rg P k (plainElem (H := H) P e)) = m.map (·.1) := by
      have h3 : es.toList.map ((fun p : Lit × DataW H => Go.intOf p.1) ∘ rg P k (plainElem (H := H) P e)) = (es.toList.map (fun e => (e.key, e.val))).map (fun q => match q.1 with | .int _ a => a | _ => 0) := by
        rw [List.map_map]
        apply List.map_congr_left
        intro x hx
        simp only [Function.comp, rg, hrd2 x hx, Option.getD_some]
        rfl
      rw [h3, hE.eq, List.map_map]
      rfl
    rw [h2]
  · show ((es.toList.map (rg P k (plainElem (H := H) P e))).foldr DataW.insert []).length = m.length
    rw [length_sorted]
    simp [hlen]

theorem keys_calls (r : Nat) (w : World) : Calls Try.prog 28 #[.map (some r)] w fun e w' =>
    e = .returned (.func (.func 36) #[] #[.pointer (some ⟨w.heap.size, 0, none⟩)]) ∧ w' = w.alloc (.cells #[.map (some r)] 57) :=
  (callsIn_wide (n := 5)).1 (AnyZI.keys_in Try.keysK Fence.wide 5 trivial rfl (some r) w)

theorem sorts_in (m : Nat) : AnyZI.SortsIn Try.prog Try.sortedK_ren Fence.wide m :=
  ⟨fun blk off cap ss W hH hblk hsz => callsIn_wide.2 (Try.slices_Sort_int blk off cap ss W hH hblk hsz),
   fun p cap W => callsIn_wide.2 (Try.slices_Sort_int_none p cap W)⟩

theorem slO_of_owns {w : World} {base : Nat} {E : TypeId} {v : Value} {xs : List Int} (h : w.ownsRow base E 1 v xs.length (xs.map (Value.int .i64))) : ∃ g, SlO w E 1 intE g v xs ∧ ∀ q, g = some q → base ≤ q := by
  rcases h.2 with ⟨rfl, hn⟩ | ⟨g, cap, cur, rfl, hb, hg, hl, hm, hs, ht⟩
  · exact ⟨none, .inl ⟨rfl, List.eq_nil_of_length_eq_zero hn, rfl⟩, by simp⟩
  · refine ⟨some g, .inr ⟨g, 0, cap, cur, rfl, rfl, hg, hl, hm, by omega, ?_⟩, fun q hq => by cases hq; exact hb⟩
    rw [flat_intE, List.drop_zero]
    exact ht

theorem sorted_calls (r Bm : Nat) (m : List (Int × Bool)) (w : World) (hm : MapAt w r (intV .i64) Value.bool m) (hc : w.cell? ⟨Bm, 0, none⟩ = some (.map (some r))) (hw : ∀ p ∈ m, (Lit.int .i64 p.1).wf = true) (hn : m.length ≤ 2000000) :
    Calls Try.prog 27 #[.func (.func 36) #[] #[.pointer (some ⟨Bm, 0, none⟩)]] w fun e w' =>
      ∃ v g, e = .returned v ∧ SlO w' 3 1 intE g v (sortI (m.map (·.1))) ∧ Ext NoB w w' ∧ (∀ q, g = some q → w.heap.size ≤ q) := by
  obtain ⟨D0, hown, hperm, hsz⟩ := owns_of_mapAt (H := Unit) Try.underlying3 Try.underlying4 hm hw (by unfold maxLen; omega)
  have hseq : SeqGives Fence.wide 2 Try.prog 36 #[.pointer (some ⟨Bm, 0, none⟩)] encZ (fun ss => ss.Perm (intKeys D0)) (Maps.size D0) w :=
    AnyZI.keys_gives (ρ := Try.keysK_ren) { Try.keysK with } Fence.wide _ trivial rfl (by omega) Bm r _ D0 _ (World.block_lt_of_cell? w _ hc) hc hown
  have cS := AnyZI.sorted_in Try.sortedK Fence.wide 5 trivial trivial trivial trivial rfl (by omega) (sorts_in _) (enters_of Try.func35 (by kernel_rfl) rfl) 36 #[.pointer (some ⟨Bm, 0, none⟩)] trivial (enters_of Try.func36 (by kernel_rfl) rfl) _ _ (by rw [hsz]; unfold maxLen; omega) (by rw [hsz]; omega) w hseq
  change CallsIn _ _ Try.prog 27 _ _ _ at cS
  refine ((callsIn_wide (n := 5)).1 cS).mono fun e w' ⟨v, ss, he, hS, hrow, hnil, hb⟩ => ?_
  have h1 : sortI (m.map (·.1)) = ss.mergeSort (fun x y => decide (x ≤ y)) := (sortI_eq (hS.trans hperm)).symm
  have h2 : (ss.mergeSort (fun x y => decide (x ≤ y))).length = ss.length := List.length_mergeSort _
  obtain ⟨g, hO, hg⟩ := slO_of_owns (xs := ss.mergeSort (fun x y => decide (x ≤ y))) (by rw [h2]; exact hrow)
  exact ⟨v, g, he, by rw [h1]; exact hO, Ext.of_below hb, hg⟩

end Go.Proofs.Ytolihdcfhonfgaa
