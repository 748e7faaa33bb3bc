/- The commands: the document's way: with, take. Printed by gen-cmi.py. -/
import Derived.Test.YtgiimmiandhkhaaGreatDoorProg
import Derived.Test.YtgiimmiandhkhaaGreatDoorCmH
import Derived.Test.YtgiimmiandhkhaaGreatDoorCmN
import Derived.Test.YtgiimmiandhkhaaGreatDoorBoI
import Derived.Lib.ConvBytes
namespace Go.Proofs.YtgiimmiandhkhaaGreatDoor
open Go.RowKit
set_option linter.unusedSimpArgs false
set_option linter.unusedVariables false

theorem bytes_frozen (w : World) (e : TypeId) (s : ByteArray) (j : Nat) (hj : j < s.size) : (Lib.bytesWorld w e s).frozen? ⟨w.heap.size, j, none⟩ = false := by
  simp only [World.frozen?, Lib.bytesWorld_at_new]
  have : s.size ≤ (Lib.bytesCells w e s).size := by simp [Lib.bytesCells]
  simp
  omega
set_option maxRecDepth 20000 in
set_option maxHeartbeats 8000000 in
theorem with_calls (s : ByteArray) (a b : UInt8) (hs : s.size ≤ 1000000) (w : World) :
    Calls Tryz.prog 28 #[.string s, .int .u8 (a.toNat : Int), .int .u8 (b.toNat : Int)] w fun e w' => e = .returned (.string (mk (s.data.toList.map (fun x => if x = a then b else x)))) ∧ Ext NoB w w' := by
  have hsz : s.data.toList.length = s.size := by rw [Array.length_toList]; rfl
  have hcv := Lib.run_convert_string_bytes (P := Tryz.prog) w 9 82 5 s Tryz.underlying9 Tryz.underlying82 Tryz.underlying5
  have hx1 : Ext NoB w (Lib.bytesWorld w 5 s) := bytes_ext w _ s
  have hbs : (Lib.bytesWorld w 5 s).heap.size = w.heap.size + 1 := Lib.bytesWorld_size w _ s
  have hc0 : Hid (∀ j, j < s.size → (Lib.bytesWorld w 5 s).cell? ⟨w.heap.size, j, none⟩ = some (.int .u8 ((s.data.toList.getD j 0).toNat : Int))) := fun j hj => Lib.bytesWorld_cell w _ s j hj
  have hf0 : Hid (∀ j, j < s.size → (Lib.bytesWorld w 5 s).frozen? ⟨w.heap.size, j, none⟩ = false) := fun j hj => bytes_frozen w _ s j hj
  generalize Lib.bytesWorld w 5 s = w1 at *
  generalize grownCap w s.size 0 5 = cap at *
  go_enter Tryz.func28, Tryz.ntmps28
  go_wp2_with fail
  obtain ⟨bq, hbq⟩ : ∃ bq, w.heap.size = bq := ⟨_, rfl⟩
  rw [hbq] at hc0 hf0 hbs ⊢
  go_loopw [8] (fun i wr => ∃ (k : Nat) (D : List UInt8), k ≤ s.size ∧ i = .int .i64 (k : Int) ∧ Hid (D = (s.data.toList.take k).map (fun x => if x = a then b else x) ++ s.data.toList.drop k) ∧ D.length = s.size ∧ Hid (∀ j, j < s.size → wr.cell? ⟨bq, j, none⟩ = some (.int .u8 ((D.getD j 0).toNat : Int))) ∧ Hid (∀ j, j < s.size → wr.frozen? ⟨bq, j, none⟩ = false) ∧ Ext (· = bq) w1 wr) (fun i _ => s.size - (intOf i).toNat)
  case atStart => exact ⟨0, s.data.toList, Nat.zero_le _, rfl, by show _ = _; simp, hsz, hc0, hf0, Ext.refl _ _⟩
  case round =>
    obtain ⟨k, D, hk, rfl, hD, hDl, hcs, hfs, hext⟩ := hrel
    by_cases hlt : k < s.size
    · have t0 : decide (k < s.size) = true := by simp [hlt]
      have t0' : decide ((k : Int) < (s.size : Int)) = true := by simp [hlt]
      have f1 := hcs.out k hlt
      have f2 := hfs.out k hlt
      have hkl : k < s.data.toList.length := by omega
      have hDk : D.getD k 0 = s.data.toList[k] := by
        have e1 : (List.map (fun x => if x = a then b else x) (s.data.toList.take k)).length = k := by rw [List.length_map, List.length_take]; omega
        rw [hD.out, List.getD_eq_getElem?_getD, List.getElem?_append_right (by rw [e1]; exact Nat.le_refl _), e1, Nat.sub_self, List.getElem?_drop, Nat.add_zero, List.getElem?_eq_getElem hkl]; rfl
      have hnext : Hid (∀ y, y = (if s.data.toList[k] = a then b else s.data.toList[k]) → D.set k y = (s.data.toList.take (k + 1)).map (fun x => if x = a then b else x) ++ s.data.toList.drop (k + 1)) := by
        intro y hy
        rw [hD.out, List.set_append_right _ _ (by simp; omega)]
        have e1 : k - (List.map (fun x => if x = a then b else x) (s.data.toList.take k)).length = 0 := by rw [List.length_map, List.length_take]; omega
        rw [e1, List.drop_eq_getElem_cons hkl, List.set_cons_zero, List.take_succ_eq_append_getElem hkl, List.map_append, List.append_assoc, hy]
        rfl
      rw [hDk] at f1
      generalize s.data.toList[k] = u at *
      by_cases hu : u = a
      · have t1 : ((u.toNat : Int) == (a.toNat : Int)) = true := by rw [hu]; simp
        have hn := hnext.out b (by rw [if_pos hu])
        clear hDk
        go_wp2_with fail
        go_roundw
        case rel =>
          refine ⟨k + 1, D.set k b, by omega, by go_num, hn, by simp [hDl], ?_, ?_, hext.setCell (fun _ => rfl) _⟩
          · intro j hj
            by_cases hjk : j = k
            · subst hjk
              rw [World.cell?_setCell_same _ _ _ f1]
              simp [List.getD_eq_getElem?_getD, hDl, hlt]
            · rw [World.cell?_setCell_other _ _ _ _ (by first | (simp; done) | (simp; omega)), hcs.out j hj]
              simp [List.getD_eq_getElem?_getD, Ne.symm hjk]
          · intro j hj
            rw [World.frozen?_setCell]
            exact hfs.out j hj
        case measure => simp [intOf]; omega
      · have t1 : ((u.toNat : Int) == (a.toNat : Int)) = false := by
          rw [beq_eq_false_iff_ne]
          intro e
          exact hu (UInt8.toNat_inj.1 (by omega))
        have hn := hnext.out u (by rw [if_neg hu])
        have hsame : D.set k u = D := by
          rw [← hDk, List.getD_eq_getElem?_getD, List.getElem?_eq_getElem (by omega), Option.getD_some]
          exact List.set_getElem_self (by omega)
        rw [hsame] at hn
        clear hDk hsame
        go_wp2_with fail
        go_roundw
        case rel => exact ⟨k + 1, D, by omega, by go_num, hn, hDl, hcs, hfs, hext⟩
        case measure => simp [intOf]; omega
    · have t0 : decide (k < s.size) = false := by simp [hlt]
      have t0' : decide ((k : Int) < (s.size : Int)) = false := by simp [hlt]
      obtain rfl : k = s.size := by omega
      have hDe : Hid (D = s.data.toList.map (fun x => if x = a then b else x)) := by
        show _ = _
        have := hD.out
        rw [List.take_of_length_le (by omega), List.drop_of_length_le (by omega), List.append_nil] at this
        exact this
      have hback := run_convert_bytes_back (P := Tryz.prog) wr 82 9 5 ⟨bq, 0, none⟩ cap D Tryz.underlying82 Tryz.underlying5 Tryz.underlying9 (fun j hj => by
        rw [Lib.add_plain, Nat.zero_add, hcs.out j (by omega), List.getD_eq_getElem?_getD, List.getElem?_eq_getElem hj, Option.getD_some])
      rw [hDl] at hback
      have hwx : Ext NoB w wr := hx1.trans (hext.mono (fun _ _ e => e)) (fun i hi e => by omega)
      have hD2 : Hid ((⟨D.toArray⟩ : ByteArray) = mk (s.data.toList.map (fun x => if x = a then b else x))) := by show _ = _; rw [← hDe.out]; rfl
      generalize (⟨D.toArray⟩ : ByteArray) = S at *
      clear hext
      go_wp2_with fail
      go_ret
      exact ⟨by rw [hD2.out]; rfl, hwx⟩

theorem takeVb (c : Cm) (w : List UInt8) : takeV c 98 w = (if (parseV (comma w)).2 = 0 then some { c with body := (parseV (comma w)).1 } else none) := by simp [takeV]
theorem takeVl (c : Cm) (w : List UInt8) : takeV c 108 w = (numV w 4).map (fun (v : Nat) => { c with preds := c.preds ++ [(v : Int)] }) := by simp [takeV]
theorem takeVt (c : Cm) (w : List UInt8) : takeV c 116 w = (numV w 4).map (fun (v : Nat) => { c with t := (v : Int) }) := by simp [takeV]
theorem takeVp (c : Cm) (w : List UInt8) : takeV c 112 w = (numV w 4).map (fun (v : Nat) => { c with p := (v : Int) }) := by simp [takeV]
theorem takeVi (c : Cm) (w : List UInt8) : takeV c 105 w = (numV w 4).map (fun (v : Nat) => { c with i := (v : Int) }) := by simp [takeV]
theorem takeVn (c : Cm) (w : List UInt8) : takeV c 110 w = (numV w 18).map (fun (v : Nat) => { c with n := (v : Int) }) := by simp [takeV]
theorem takeVm (c : Cm) (w : List UInt8) : takeV c 109 w = (numV w 18).map (fun (v : Nat) => { c with m := (v : Int) }) := by simp [takeV]

set_option maxRecDepth 20000 in
set_option maxHeartbeats 8000000 in
theorem taket_calls (c : Cm) (b lo : Nat) (s : ByteArray) (hs : s.size ≤ 1000000) (w : World) (hA : CmAt w b lo c) :
    Calls Tryz.prog 18 #[.pointer (some ⟨b, 0, none⟩), .int .u8 116, .string s] w fun e w' => e = .returned (.bool (takeV c 116 s.data.toList).isSome) ∧ PutOk w w' b lo (takeV c 116 s.data.toList) := by
  have hv := Lib.hid (takeVt c s.data.toList)
  have hn := Lib.hid (numberM_calls s 4 (by decide) w)
  go_enter Tryz.func18, Tryz.ntmps18
  go_wp2_with fail
  refine hn.out.mono ?_
  rintro e w1 ⟨rfl, hx1⟩
  obtain ⟨bv, pv, gb, gp, h1, h2, h3, h4, h5, h6, h7, h8, h9⟩ := hA.keep hx1
  have hv63 : Hid (∀ v, numV s.data.toList 4 = some v → v < 1000000000000000000) := fun v h => num_lt18 (by decide) h
  have f1 := cell_of_row w1 b 1 _ _ (0, 0) h1
  have f2 : w1.frozen? ⟨b, 1, none⟩ = false := by simp only [World.frozen?, h1]; rfl
  generalize hq : numV s.data.toList 4 = q at *
  have hq := Lib.hid hq
  clear hA
  cases q with
  | none =>
    have hv2 : Hid (takeV c 116 s.data.toList = none) := by show _ = _; rw [hv.out]; rfl
    simp only [Option.isSome_none, Option.getD_none]
    go_wp2_with fail
    go_ret
    exact ⟨by rw [hv2.out]; rfl, fun c' h => (by rw [hv2.out] at h; cases h), (hx1.mono (G := fun i => i = b ∨ lo ≤ i) (fun _ _ e => e.elim)).setCell (fun _ => .inl rfl) _⟩
  | some v =>
    have hlt := hv63.out v rfl
    have hv2 : Hid (takeV c 116 s.data.toList = some { c with t := (v : Int) }) := by show _ = _; rw [hv.out]; rfl
    simp only [Option.isSome_some, Option.getD_some]
    go_wp2_with fail
    go_ret
    refine ⟨by rw [hv2.out]; rfl, fun c' h => ?_, (hx1.mono (G := fun i => i = b ∨ lo ≤ i) (fun _ _ e => e.elim)).setCell (fun _ => .inl rfl) _⟩
    rw [hv2.out] at h
    obtain rfl := Option.some.inj h
    have x2 := ext_cellAt w1 b 1 (.int .i64 (v : Int))
    exact ⟨bv, pv, gb, gp, row_set 1 _ h1, h2.keep x2 (fun q hq e => h4 (by rw [hq, e])), h3.keep x2 (fun q hq e => h5 (by rw [hq, e])), h4, h5, h6, h7, h8, h9⟩

set_option maxRecDepth 20000 in
set_option maxHeartbeats 8000000 in
theorem takep_calls (c : Cm) (b lo : Nat) (s : ByteArray) (hs : s.size ≤ 1000000) (w : World) (hA : CmAt w b lo c) :
    Calls Tryz.prog 18 #[.pointer (some ⟨b, 0, none⟩), .int .u8 112, .string s] w fun e w' => e = .returned (.bool (takeV c 112 s.data.toList).isSome) ∧ PutOk w w' b lo (takeV c 112 s.data.toList) := by
  have hv := Lib.hid (takeVp c s.data.toList)
  have hn := Lib.hid (numberM_calls s 4 (by decide) w)
  go_enter Tryz.func18, Tryz.ntmps18
  go_wp2_with fail
  refine hn.out.mono ?_
  rintro e w1 ⟨rfl, hx1⟩
  obtain ⟨bv, pv, gb, gp, h1, h2, h3, h4, h5, h6, h7, h8, h9⟩ := hA.keep hx1
  have hv63 : Hid (∀ v, numV s.data.toList 4 = some v → v < 1000000000000000000) := fun v h => num_lt18 (by decide) h
  have f1 := cell_of_row w1 b 2 _ _ (0, 0) h1
  have f2 : w1.frozen? ⟨b, 2, none⟩ = false := by simp only [World.frozen?, h1]; rfl
  generalize hq : numV s.data.toList 4 = q at *
  have hq := Lib.hid hq
  clear hA
  cases q with
  | none =>
    have hv2 : Hid (takeV c 112 s.data.toList = none) := by show _ = _; rw [hv.out]; rfl
    simp only [Option.isSome_none, Option.getD_none]
    go_wp2_with fail
    go_ret
    exact ⟨by rw [hv2.out]; rfl, fun c' h => (by rw [hv2.out] at h; cases h), (hx1.mono (G := fun i => i = b ∨ lo ≤ i) (fun _ _ e => e.elim)).setCell (fun _ => .inl rfl) _⟩
  | some v =>
    have hlt := hv63.out v rfl
    have hv2 : Hid (takeV c 112 s.data.toList = some { c with p := (v : Int) }) := by show _ = _; rw [hv.out]; rfl
    simp only [Option.isSome_some, Option.getD_some]
    go_wp2_with fail
    go_ret
    refine ⟨by rw [hv2.out]; rfl, fun c' h => ?_, (hx1.mono (G := fun i => i = b ∨ lo ≤ i) (fun _ _ e => e.elim)).setCell (fun _ => .inl rfl) _⟩
    rw [hv2.out] at h
    obtain rfl := Option.some.inj h
    have x2 := ext_cellAt w1 b 2 (.int .i64 (v : Int))
    exact ⟨bv, pv, gb, gp, row_set 2 _ h1, h2.keep x2 (fun q hq e => h4 (by rw [hq, e])), h3.keep x2 (fun q hq e => h5 (by rw [hq, e])), h4, h5, h6, h7, h8, h9⟩

set_option maxRecDepth 20000 in
set_option maxHeartbeats 8000000 in
theorem takei_calls (c : Cm) (b lo : Nat) (s : ByteArray) (hs : s.size ≤ 1000000) (w : World) (hA : CmAt w b lo c) :
    Calls Tryz.prog 18 #[.pointer (some ⟨b, 0, none⟩), .int .u8 105, .string s] w fun e w' => e = .returned (.bool (takeV c 105 s.data.toList).isSome) ∧ PutOk w w' b lo (takeV c 105 s.data.toList) := by
  have hv := Lib.hid (takeVi c s.data.toList)
  have hn := Lib.hid (numberM_calls s 4 (by decide) w)
  go_enter Tryz.func18, Tryz.ntmps18
  go_wp2_with fail
  refine hn.out.mono ?_
  rintro e w1 ⟨rfl, hx1⟩
  obtain ⟨bv, pv, gb, gp, h1, h2, h3, h4, h5, h6, h7, h8, h9⟩ := hA.keep hx1
  have hv63 : Hid (∀ v, numV s.data.toList 4 = some v → v < 1000000000000000000) := fun v h => num_lt18 (by decide) h
  have f1 := cell_of_row w1 b 3 _ _ (0, 0) h1
  have f2 : w1.frozen? ⟨b, 3, none⟩ = false := by simp only [World.frozen?, h1]; rfl
  generalize hq : numV s.data.toList 4 = q at *
  have hq := Lib.hid hq
  clear hA
  cases q with
  | none =>
    have hv2 : Hid (takeV c 105 s.data.toList = none) := by show _ = _; rw [hv.out]; rfl
    simp only [Option.isSome_none, Option.getD_none]
    go_wp2_with fail
    go_ret
    exact ⟨by rw [hv2.out]; rfl, fun c' h => (by rw [hv2.out] at h; cases h), (hx1.mono (G := fun i => i = b ∨ lo ≤ i) (fun _ _ e => e.elim)).setCell (fun _ => .inl rfl) _⟩
  | some v =>
    have hlt := hv63.out v rfl
    have hv2 : Hid (takeV c 105 s.data.toList = some { c with i := (v : Int) }) := by show _ = _; rw [hv.out]; rfl
    simp only [Option.isSome_some, Option.getD_some]
    go_wp2_with fail
    go_ret
    refine ⟨by rw [hv2.out]; rfl, fun c' h => ?_, (hx1.mono (G := fun i => i = b ∨ lo ≤ i) (fun _ _ e => e.elim)).setCell (fun _ => .inl rfl) _⟩
    rw [hv2.out] at h
    obtain rfl := Option.some.inj h
    have x2 := ext_cellAt w1 b 3 (.int .i64 (v : Int))
    exact ⟨bv, pv, gb, gp, row_set 3 _ h1, h2.keep x2 (fun q hq e => h4 (by rw [hq, e])), h3.keep x2 (fun q hq e => h5 (by rw [hq, e])), h4, h5, h6, h7, h8, h9⟩

set_option maxRecDepth 20000 in
set_option maxHeartbeats 8000000 in
theorem taken_calls (c : Cm) (b lo : Nat) (s : ByteArray) (hs : s.size ≤ 1000000) (w : World) (hA : CmAt w b lo c) :
    Calls Tryz.prog 18 #[.pointer (some ⟨b, 0, none⟩), .int .u8 110, .string s] w fun e w' => e = .returned (.bool (takeV c 110 s.data.toList).isSome) ∧ PutOk w w' b lo (takeV c 110 s.data.toList) := by
  have hv := Lib.hid (takeVn c s.data.toList)
  have hn := Lib.hid (numberM_calls s 18 (by decide) w)
  go_enter Tryz.func18, Tryz.ntmps18
  go_wp2_with fail
  refine hn.out.mono ?_
  rintro e w1 ⟨rfl, hx1⟩
  obtain ⟨bv, pv, gb, gp, h1, h2, h3, h4, h5, h6, h7, h8, h9⟩ := hA.keep hx1
  have hv63 : Hid (∀ v, numV s.data.toList 18 = some v → v < 1000000000000000000) := fun v h => num_lt18 (by decide) h
  have f1 := cell_of_row w1 b 4 _ _ (0, 0) h1
  have f2 : w1.frozen? ⟨b, 4, none⟩ = false := by simp only [World.frozen?, h1]; rfl
  generalize hq : numV s.data.toList 18 = q at *
  have hq := Lib.hid hq
  clear hA
  cases q with
  | none =>
    have hv2 : Hid (takeV c 110 s.data.toList = none) := by show _ = _; rw [hv.out]; rfl
    simp only [Option.isSome_none, Option.getD_none]
    go_wp2_with fail
    go_ret
    exact ⟨by rw [hv2.out]; rfl, fun c' h => (by rw [hv2.out] at h; cases h), (hx1.mono (G := fun i => i = b ∨ lo ≤ i) (fun _ _ e => e.elim)).setCell (fun _ => .inl rfl) _⟩
  | some v =>
    have hlt := hv63.out v rfl
    have hv2 : Hid (takeV c 110 s.data.toList = some { c with n := (v : Int) }) := by show _ = _; rw [hv.out]; rfl
    simp only [Option.isSome_some, Option.getD_some]
    go_wp2_with fail
    go_ret
    refine ⟨by rw [hv2.out]; rfl, fun c' h => ?_, (hx1.mono (G := fun i => i = b ∨ lo ≤ i) (fun _ _ e => e.elim)).setCell (fun _ => .inl rfl) _⟩
    rw [hv2.out] at h
    obtain rfl := Option.some.inj h
    have x2 := ext_cellAt w1 b 4 (.int .u64 (v : Int))
    exact ⟨bv, pv, gb, gp, row_set 4 _ h1, h2.keep x2 (fun q hq e => h4 (by rw [hq, e])), h3.keep x2 (fun q hq e => h5 (by rw [hq, e])), h4, h5, h6, h7, h8, h9⟩

set_option maxRecDepth 20000 in
set_option maxHeartbeats 8000000 in
theorem takem_calls (c : Cm) (b lo : Nat) (s : ByteArray) (hs : s.size ≤ 1000000) (w : World) (hA : CmAt w b lo c) :
    Calls Tryz.prog 18 #[.pointer (some ⟨b, 0, none⟩), .int .u8 109, .string s] w fun e w' => e = .returned (.bool (takeV c 109 s.data.toList).isSome) ∧ PutOk w w' b lo (takeV c 109 s.data.toList) := by
  have hv := Lib.hid (takeVm c s.data.toList)
  have hn := Lib.hid (numberM_calls s 18 (by decide) w)
  go_enter Tryz.func18, Tryz.ntmps18
  go_wp2_with fail
  refine hn.out.mono ?_
  rintro e w1 ⟨rfl, hx1⟩
  obtain ⟨bv, pv, gb, gp, h1, h2, h3, h4, h5, h6, h7, h8, h9⟩ := hA.keep hx1
  have hv63 : Hid (∀ v, numV s.data.toList 18 = some v → v < 1000000000000000000) := fun v h => num_lt18 (by decide) h
  have f1 := cell_of_row w1 b 5 _ _ (0, 0) h1
  have f2 : w1.frozen? ⟨b, 5, none⟩ = false := by simp only [World.frozen?, h1]; rfl
  generalize hq : numV s.data.toList 18 = q at *
  have hq := Lib.hid hq
  clear hA
  cases q with
  | none =>
    have hv2 : Hid (takeV c 109 s.data.toList = none) := by show _ = _; rw [hv.out]; rfl
    simp only [Option.isSome_none, Option.getD_none]
    go_wp2_with fail
    go_ret
    exact ⟨by rw [hv2.out]; rfl, fun c' h => (by rw [hv2.out] at h; cases h), (hx1.mono (G := fun i => i = b ∨ lo ≤ i) (fun _ _ e => e.elim)).setCell (fun _ => .inl rfl) _⟩
  | some v =>
    have hlt := hv63.out v rfl
    have hv2 : Hid (takeV c 109 s.data.toList = some { c with m := (v : Int) }) := by show _ = _; rw [hv.out]; rfl
    simp only [Option.isSome_some, Option.getD_some]
    go_wp2_with fail
    go_ret
    refine ⟨by rw [hv2.out]; rfl, fun c' h => ?_, (hx1.mono (G := fun i => i = b ∨ lo ≤ i) (fun _ _ e => e.elim)).setCell (fun _ => .inl rfl) _⟩
    rw [hv2.out] at h
    obtain rfl := Option.some.inj h
    have x2 := ext_cellAt w1 b 5 (.int .u64 (v : Int))
    exact ⟨bv, pv, gb, gp, row_set 5 _ h1, h2.keep x2 (fun q hq e => h4 (by rw [hq, e])), h3.keep x2 (fun q hq e => h5 (by rw [hq, e])), h4, h5, h6, h7, h8, h9⟩

set_option maxRecDepth 20000 in
set_option maxHeartbeats 8000000 in
theorem takeb_calls (c : Cm) (b lo : Nat) (s : ByteArray) (hs : s.size ≤ 1000000) (w : World) (hA : CmAt w b lo c) (hw : lo ≤ w.heap.size) :
    Calls Tryz.prog 18 #[.pointer (some ⟨b, 0, none⟩), .int .u8 98, .string s] w fun e w' => e = .returned (.bool (takeV c 98 s.data.toList).isSome) ∧ PutOk w w' b lo (takeV c 98 s.data.toList) := by
  have hv := Lib.hid (takeVb c s.data.toList)
  have hr := Lib.hid (with_calls s 44 32 hs w)
  go_enter Tryz.func18, Tryz.ntmps18
  go_wp2_with fail
  refine hr.out.mono ?_
  rintro e w1 ⟨rfl, hx1⟩
  have hcd : (mk (comma s.data.toList)).data.toList = comma s.data.toList := by simp [mk]
  have hp := bodyOf_calls (mk (comma s.data.toList)) w1
  rw [hcd, bodyR_eq] at hp
  have hp := Lib.hid hp
  have hce : mk (s.data.toList.map (fun x => if x = 44 then 32 else x)) = mk (comma s.data.toList) := rfl
  rw [hce]
  generalize mk (comma s.data.toList) = S1 at *
  go_wp2_with fail
  refine hp.out.mono ?_
  rintro e w2 ⟨v, g, rfl, hO, hx2, hg⟩
  have hx02 := hx1.trans hx2 (fun _ _ e => e)
  obtain ⟨bv, pv, gb, gp, k1, k2, k3, h4, h5, h6, h7, h8, h9⟩ := hA
  have h1 := hx02.keep k1 nb
  have h3 := k3.keep hx02 (fun _ _ => nb)
  have k3l : ∀ q, gp = some q → q < w.heap.size := fun q hq => k3.lt hq
  have hg1 : ∀ q, g = some q → w.heap.size ≤ q := fun q hq => Nat.le_trans hx1.size (hg q hq)
  have hbl := lt_of_block k1
  have f1 := cell_of_row w2 b 6 _ _ (0, 0) h1
  have f2 : w2.frozen? ⟨b, 6, none⟩ = false := by simp only [World.frozen?, h1]; rfl
  obtain ⟨A2, c2, b2, o2, rfl, hr2, hgp2⟩ := hO.read
  have hex : Hid (∀ l er, (parseV (comma s.data.toList)) = (l, er) → takeV c 98 s.data.toList = if er = 0 then some { c with body := l } else none) := by
    intro l er h
    rw [hv.out, h]
  generalize hpr : parseV (comma s.data.toList) = pr at *
  obtain ⟨l, er⟩ := pr
  dsimp only at *
  have hex := Lib.hid (hex.out l er rfl)
  clear hv hpr
  have hrow := row_set 6 (.slice A2 l.length c2) h1
  have x3 := ext_cellAt w2 b 6 (.slice A2 l.length c2)
  have xlo := (hx02.mono (G := fun i => i = b ∨ lo ≤ i) (fun _ _ e => e.elim)).setCell (p := ⟨b, 6, none⟩) (fun _ => .inl rfl) (.slice A2 l.length c2)
  by_cases he : er = 0
  · subst he
    have hv2 : Hid (takeV c 98 s.data.toList = some { c with body := l }) := by show _ = _; rw [hex.out, if_pos rfl]
    go_wp2_with fail
    go_ret
    refine ⟨by rw [hv2.out]; rfl, fun c' h => ?_, xlo⟩
    rw [hv2.out] at h
    obtain rfl := Option.some.inj h
    have hgb : g ≠ some b := fun e => by have := hg1 b e; omega
    have hgl : ∀ q, g = some q → lo ≤ q := fun q hq => Nat.le_trans hw (hg1 q hq)
    exact ⟨_, pv, g, gp, hrow, hO.keep x3 (fun q hq e => hgb (by rw [hq, e])), h3.keep x3 (fun q hq e => h5 (by rw [hq, e])), hgb, h5, hgl, h7, h8, fun q hq e => by have := hg1 q hq; have := k3l q e; omega⟩
  · have hv2 : Hid (takeV c 98 s.data.toList = none) := by show _ = _; rw [hex.out, if_neg he]
    have t0 : (er == 0) = false := by rw [beq_eq_false_iff_ne]; exact he
    go_wp2_with fail
    go_ret
    exact ⟨by rw [hv2.out]; rfl, fun c' h => (by rw [hv2.out] at h; cases h), xlo⟩

set_option maxRecDepth 20000 in
set_option maxHeartbeats 8000000 in
theorem takel_calls (c : Cm) (b lo : Nat) (s : ByteArray) (hs : s.size ≤ 1000000) (w : World) (hA : CmAt w b lo c) (hw : lo ≤ w.heap.size) (hfew : c.preds.length ≤ 100) :
    Calls Tryz.prog 18 #[.pointer (some ⟨b, 0, none⟩), .int .u8 108, .string s] w fun e w' => e = .returned (.bool (takeV c 108 s.data.toList).isSome) ∧ PutOk w w' b lo (takeV c 108 s.data.toList) := by
  have hv := Lib.hid (takeVl c s.data.toList)
  have hn := Lib.hid (numberM_calls s 4 (by decide) w)
  go_enter Tryz.func18, Tryz.ntmps18
  go_wp2_with fail
  refine hn.out.mono ?_
  rintro e w1 ⟨rfl, hx1⟩
  obtain ⟨bv, pv, gb, gp, h1, h2, h3, h4, h5, h6, h7, h8, h9⟩ := hA.keep hx1
  have hw1 := hx1.size
  have f1 := cell_of_row w1 b 7 _ _ (0, 0) h1
  have hq63 : Hid (∀ v, numV s.data.toList 4 = some v → v < 1000000000000000000) := fun v h => num_lt18 (by decide) h
  generalize hq : numV s.data.toList 4 = q at *
  have hq := Lib.hid hq
  have hb1 : (c.preds.length + 1) * 8 ≤ 140737488355328 := by omega
  have hb2 : c.preds.length + 1 ≤ maxLen := by unfold maxLen; omega
  clear hA
  have y1 : ∀ ob, (w1.alloc ob).heap[b]? = _ := fun ob => ((Ext.refl NoB w1).alloc ob).keep h1 nb
  cases q with
  | none =>
    have hv2 : Hid (takeV c 108 s.data.toList = none) := by show _ = _; rw [hv.out]; rfl
    simp only [Option.isSome_none, Option.getD_none]
    go_wp2_with (at_builtin; go_loud (refine wpList_appendO (ys := [(0 : Int)]) rfl rfl elem_int intE_len intE_one (h3.keep ((Ext.refl NoB _).alloc _) (fun _ _ => nb)) rfl (SlR.one' (alloc_at' _ _ _ (by simp)) rfl) rfl rfl hb1 hb2 (fun v' w5 g' hO' hx5 hg' => ?_); have n3 := hx5.keep (y1 _) (fun e => h5 e); have n3f : w5.frozen? ⟨b, 7, none⟩ = false := (by simp only [World.frozen?, n3]; rfl); have n3c := cell_of_row w5 b 7 _ _ (0, 0) n3; obtain ⟨A5, c5, b5, o5, rfl, hr5, hg5⟩ := hO'.read; rw [List.length_append, List.length_singleton] at hO' ⊢))
    go_ret
    refine ⟨by rw [hv2.out]; rfl, fun c' h => (by rw [hv2.out] at h; cases h), ?_⟩
    exact (((hx1.mono (G := fun i => i = b ∨ lo ≤ i) (fun _ _ e => e.elim)).alloc _).trans hx5 (fun i _ e => .inr (h7 i e))).setCell (fun _ => .inl rfl) _
  | some v =>
    have hlt := hq63.out v rfl
    simp only [Option.isSome_some, Option.getD_some]
    have hv2 : Hid (takeV c 108 s.data.toList = some { c with preds := c.preds ++ [(v : Int)] }) := by show _ = _; rw [hv.out]; rfl
    go_wp2_with (at_builtin; go_loud (refine wpList_appendO (ys := [(v : Int)]) rfl rfl elem_int intE_len intE_one (h3.keep ((Ext.refl NoB _).alloc _) (fun _ _ => nb)) rfl (SlR.one' (alloc_at' _ _ _ (by simp)) rfl) rfl rfl hb1 hb2 (fun v' w5 g' hO' hx5 hg' => ?_); have n3 := hx5.keep (y1 _) (fun e => h5 e); have n3f : w5.frozen? ⟨b, 7, none⟩ = false := (by simp only [World.frozen?, n3]; rfl); have n3c := cell_of_row w5 b 7 _ _ (0, 0) n3; obtain ⟨A5, c5, b5, o5, rfl, hr5, hg5⟩ := hO'.read; rw [List.length_append, List.length_singleton] at hO' ⊢))
    go_ret
    refine ⟨by rw [hv2.out]; rfl, fun c' h => ?_, (((hx1.mono (G := fun i => i = b ∨ lo ≤ i) (fun _ _ e => e.elim)).alloc _).trans hx5 (fun i _ e => .inr (h7 i e))).setCell (fun _ => .inl rfl) _⟩
    rw [hv2.out] at h
    obtain rfl := Option.some.inj h
    have hbl := lt_of_block h1
    have hg5 : g' ≠ some b := by rcases hg' with rfl | rfl; exact h5; intro e; simp at e; omega
    have hg7 : ∀ q, g' = some q → lo ≤ q := by
      rcases hg' with rfl | rfl
      · exact h7
      · intro q e; simp at e; omega
    have hg9 : ∀ q, gb = some q → g' ≠ some q := by
      intro q hq
      rcases hg' with rfl | rfl
      · exact h9 q hq
      · have := h2.lt hq
        intro e
        simp at e
        omega
    have x2 := ext_cellAt w5 b 7 (.slice A5 (c.preds.length + 1) c5)
    exact ⟨bv, _, gb, g', row_set 7 _ n3, (((h2.keep ((Ext.refl NoB _).alloc _) (fun _ _ => nb)).keep hx5 h9).keep x2 (fun q hq e => h4 (by rw [hq, e]))), hO'.keep x2 (fun q hq e => hg5 (by rw [hq, e])), h4, hg5, h6, hg7, h8, hg9⟩

theorem take_calls (c : Cm) (b lo : Nat) (f : UInt8) (hf : f = 116 ∨ f = 112 ∨ f = 98 ∨ f = 105 ∨ f = 110 ∨ f = 109 ∨ f = 108) (s : ByteArray) (hs : s.size ≤ 1000000) (w : World) (hA : CmAt w b lo c) (hw : lo ≤ w.heap.size) (hfew : c.preds.length ≤ 100) :
    Calls Tryz.prog 18 #[.pointer (some ⟨b, 0, none⟩), .int .u8 (f.toNat : Int), .string s] w fun e w' => e = .returned (.bool (takeV c f s.data.toList).isSome) ∧ PutOk w w' b lo (takeV c f s.data.toList) := by
  rcases hf with rfl | rfl | rfl | rfl | rfl | rfl | rfl
  · exact taket_calls c b lo s hs w hA
  · exact takep_calls c b lo s hs w hA
  · exact takeb_calls c b lo s hs w hA hw
  · exact takei_calls c b lo s hs w hA
  · exact taken_calls c b lo s hs w hA
  · exact takem_calls c b lo s hs w hA
  · exact takel_calls c b lo s hs w hA hw hfew
end Go.Proofs.YtgiimmiandhkhaaGreatDoor
