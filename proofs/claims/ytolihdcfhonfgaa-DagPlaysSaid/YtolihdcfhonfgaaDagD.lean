/- Walks of package dag: maps.DeleteFunc, leave, Done. -/
import Derived.Test.YtolihdcfhonfgaaProg
import Derived.Test.YtolihdcfhonfgaaDagC
namespace Go.Proofs.Ytolihdcfhonfgaa
open Go.RowKit
set_option linter.unusedSimpArgs false
set_option linter.unusedVariables false
attribute [local go_sem] pairV intV

theorem leave1_calls (x : Int × Int) (y : Bool) (id : Int) (b : Nat) (w : World) (hc : w.cell? ⟨b, 0, none⟩ = some (.int .i64 id)) :
    Calls Try.prog 33 #[pairV .i64 x, .bool y, .pointer (some ⟨b, 0, none⟩)] w fun e w' => e = .returned (.bool (x.2 == id)) ∧ Ext NoB w w' := by
  have hb := World.block_lt_of_cell? w _ hc
  go_enter Try.func33, Try.ntmps33
  go_wp2
  go_ret
  exact ⟨rfl, (Ext.refl _ _).alloc _⟩

/-- A predicate over the entries of a map, that only reads. -/
structure PredP (F : FuncId) (caps : Array Value) (p : (Int × Int) × Bool → Bool) (w : World) (G : Nat → Prop) : Prop where
  plain : Plainly Try.prog F
  calls : ∀ (x : Int × Int) (y : Bool) (w' : World), Ext G w w' → Calls Try.prog F (#[pairV .i64 x, .bool y] ++ caps) w' fun e w'' => e = .returned (.bool (p (x, y))) ∧ Ext NoB w' w''

theorem filter_mdel (p : (Int × Int) × Bool → Bool) (m : Pairs) (x : (Int × Int) × Bool) (hd : (m.map (·.1)).Nodup) (hx : x ∈ m) (hp : p x = true) : (mdel m x.1).filter (fun e => !p e) = m.filter (fun e => !p e) := by
  unfold mdel
  rw [List.filter_filter]
  apply List.filter_congr
  intro e he
  by_cases h : e.1 = x.1
  · have : e = x := by
      have h1 := mget_of_mem hd (x := e.1) (v := e.2) he
      have h2 := mget_of_mem hd (x := x.1) (v := x.2) hx
      rw [h, h2] at h1
      simp only [Option.some.injEq] at h1
      exact Prod.ext h h1.symm
    subst this
    simp [hp]
  · simp [h]

set_option maxHeartbeats 800000 in
theorem deleteFunc_calls (F : FuncId) (caps : Array Value) (p : (Int × Int) × Bool → Bool) (r : Nat) (ps : Pairs) (w : World) (hm : MapAt w r (pairV .i64) Value.bool ps) (hp : PredP F caps p w (· = r)) :
    Calls Try.prog 32 #[.map (some r), .func (.func F) #[] caps] w fun e w' => e = .returned (.tuple #[]) ∧ MapAt w' r (pairV .i64) Value.bool (ps.filter (fun e => !p e)) ∧ Ext (· = r) w w' := by
  have hpl : ∀ args w, (callFunc F args).run Try.prog w = .ok (.enter F args) w := hp.plain
  have hr1 := hm.lt
  go_enter Try.func32, Try.ntmps32
  go_wp2_with (at_range; refine wpList_range rfl rfl Try.underlying46 hm rfl ?_; intro it w1 hit hI hx1)
  go_frame
  go_loopg [4] (ps.length) (fun k out wr => ∃ m cur left, left.length = k ∧ IterAt wr it r (pairV .i64) Value.bool m cur left ∧ m.filter (fun e => !p e) = ps.filter (fun e => !p e) ∧ (∀ e, e ∈ m → e ∈ left ∨ p e = false) ∧ Ext (· = r) w wr ∧ it < wr.heap.size)
  case atStart => exact ⟨ps, none, ps, rfl, hI, rfl, fun e he => .inl he, hx1.mono (fun _ _ h => h.elim), hI.lt⟩
  case round =>
    obtain ⟨m, cur, left, rfl, hIr, hfil, hmem, hext, hit'⟩ := hrel
    have hsub := hIr.sub key_pair_inj (fun h => by injection h)
    have hmem' := Lib.hid hmem
    have hfil' := Lib.hid hfil
    clear hmem hfil
    go_wp2_with (at_next; refine wpList_next rfl rfl hIr rfl (fun h0 => ?_) (fun l1 x l2 w2 hl hI2 hx2 hen => ?_))
    · go_end0
      refine ⟨rfl, ?_, hext⟩
      subst h0
      have : m.filter (fun e => !p e) = m := by
        rw [List.filter_eq_self]
        intro e he
        rcases hmem'.out e he with h | h
        · cases h
        · simp [h]
      rw [← hfil'.out, this]
      exact hIr.mapAt
    · have hxm : x ∈ m := hsub.subset (by rw [hl]; simp)
      have hB : Ext NoB w2 (w2.alloc (.cells #[.int .i64 x.1.1, .int .i64 x.1.2] 54)) := (Ext.refl _ _).alloc _
      have y0 : (w2.alloc (.cells #[.int .i64 x.1.1, .int .i64 x.1.2] 54)).cell? ⟨w2.heap.size, 0, none⟩ = some (.int .i64 x.1.1) := by rw [World.cell?, alloc_at]; rfl
      have y1 : (w2.alloc (.cells #[.int .i64 x.1.1, .int .i64 x.1.2] 54)).cell? ⟨w2.heap.size, 1, none⟩ = some (.int .i64 x.1.2) := by rw [World.cell?, alloc_at]; rfl
      have hIq := hI2.keep hB nb nb
      have hlt2 := hx2.size
      have hext2 : Ext (· = r) w (w2.alloc (.cells #[.int .i64 x.1.1, .int .i64 x.1.2] 54)) := (hext.trans hx2 (fun i hi h => absurd hi (by omega))).trans hB (fun _ _ h => h.elim)
      have hlt3 := hB.size
      clear hen
      generalize w2.alloc (.cells #[.int .i64 x.1.1, .int .i64 x.1.2] 54) = wq at *
      refine (hp.calls x.1 x.2 wq hext2).mono ?_
      rintro e w3 ⟨rfl, hx3⟩
      have z0 := hx3.cell y0 nb
      have z1 := hx3.cell y1 nb
      have hI3 := hIq.keep hx3 nb nb
      have hext3 := hext2.trans hx3 (fun _ _ h => h.elim)
      have hlt4 := hx3.size
      clear y0 y1 hIq hI2 hext2 hB
      cases hpx : p x with
      | true =>
        have hpx' := Lib.hid hpx
        clear hpx
        go_wp2_with (at_delete; refine wpList_iterDel rfl rfl rfl key_pair Try.underlying46 hI3 rfl rfl (fun w4 hI4 hx4 => ?_))
        go_roundg ((l1 ++ l2).length)
        case measure => rw [hl]; simp
        case rel =>
          refine ⟨mdel m x.1, none, l1 ++ l2, rfl, hI4, ?_, ?_, hext3.trans hx4 (fun _ _ h => h), by have := hx4.size; omega⟩
          · rw [filter_mdel p m x hIr.mapAt.nodup hxm hpx'.out, hfil'.out]
          · intro e he
            obtain ⟨he1, he2⟩ := List.mem_filter.1 he
            rcases hmem'.out e he1 with h | h
            · rw [hl] at h
              refine .inl ?_
              have hne : e ≠ x := by rintro rfl; simp at he2
              simp only [List.mem_append, List.mem_cons] at h ⊢
              rcases h with h | h | h
              · exact .inl h
              · exact absurd h hne
              · exact .inr h
            · exact .inr h
      | false =>
        have hpx' := Lib.hid hpx
        clear hpx
        go_wp2_with fail
        go_roundg ((l1 ++ l2).length)
        case measure => rw [hl]; simp
        case rel =>
          refine ⟨m, some x, l1 ++ l2, rfl, hI3, hfil'.out, ?_, hext3, by omega⟩
          intro e he
          rcases hmem'.out e he with h | h
          · rw [hl] at h
            simp only [List.mem_append, List.mem_cons] at h ⊢
            rcases h with h | h | h
            · exact .inl (.inl h)
            · subst h; exact .inr hpx'.out
            · exact .inl (.inr h)
          · exact .inr h

theorem leave1_plain : Plainly Try.prog 33 := plainly_of Try.func33 (by kernel_rfl) (by kernel_rfl)

theorem leave_calls (b r1 r2 : Nat) (ps : Pairs) (ns : Nums) (id : Int) (w : World) (hd : DagAt w b r1 r2 ps ns) :
    Calls Try.prog 25 #[.pointer (some ⟨b, 0, none⟩), .int .i64 id] w fun e w' =>
      e = .returned (.tuple #[]) ∧ DagAt w' b r1 r2 (ps.filter (fun e => !(e.1.2 == id))) (mdel ns id) ∧ Ext (fun k => k = r1 ∨ k = r2) w w' := by
  have c0 : w.cell? ⟨b, 0, none⟩ = some (.map (some r1)) := by simp [World.cell?, hd.blk]
  have c1 : w.cell? ⟨b, 1, none⟩ = some (.map (some r2)) := by simp [World.cell?, hd.blk]
  have hB : (w.alloc (.cells #[.int .i64 id] 3)).cell? ⟨w.heap.size, 0, none⟩ = some (.int .i64 id) := one_at _ _ _
  have hE : Ext NoB w (w.alloc (.cells #[.int .i64 id] 3)) := (Ext.refl _ _).alloc _
  have hr1 := hd.m1.lt
  have hr2 := hd.m2.lt
  have c0a := hE.cell c0 nb
  have hd1 := hd.keep hE nb nb nb
  have hP : PredP 33 #[.pointer (some ⟨w.heap.size, 0, none⟩)] (fun e => e.1.2 == id) (w.alloc (.cells #[.int .i64 id] 3)) (· = r1) :=
    ⟨leave1_plain, fun x y w' hx => leave1_calls x y id w.heap.size w' (hx.cell hB (by simp; omega))⟩
  go_enter Try.func25, Try.ntmps25
  go_wp2_with fail
  refine (deleteFunc_calls _ _ _ r1 ps _ hd1.m1 hP).mono ?_
  rintro e w2 ⟨rfl, hm2, hx2⟩
  have d0 : w2.cell? ⟨b, 1, none⟩ = some (.map (some r2)) := hx2.cell (hE.cell c1 nb) (hd.m1.ne_cell c1)
  have d1 : w2.cell? ⟨w.heap.size, 0, none⟩ = some (.int .i64 id) := hx2.cell hB (by simp; omega)
  have hd2 : DagAt w2 b r1 r2 (ps.filter (fun e => !(e.1.2 == id))) ns := ⟨hx2.keep hd1.blk (hd.m1.ne_cell c0), hm2, hd1.m2.keep hx2 (Ne.symm hd.ne), hd.ne⟩
  go_wp2_with fail
  go_still_tail 5, (by kernel_rfl)
  refine wpList_mapDel (ek := intV .i64) (ev := intV .i64) rfl rfl rfl key_int Try.underlying47 (hd2.m2.of_block rfl) rfl id rfl ?_
  intro w3 hm3 hx3
  go_wp2_with fail
  go_end0
  have hx3' : Ext (fun x => x = r2) w2 w3 := ((Ext.refl _ w2).drew).trans hx3 (fun _ _ h => h)
  exact ⟨rfl, ⟨hx3'.keep hd2.blk (hd2.m2.ne_cell d0), hd2.m1.keep hx3' hd.ne, hm3, hd.ne⟩, ((hE.mono (fun _ _ h => h.elim)).trans hx2 (F := fun k => k = r1 ∨ k = r2) (fun _ _ h => .inl h)).trans hx3' (fun _ _ h => .inr h)⟩

end Go.Proofs.Ytolihdcfhonfgaa
