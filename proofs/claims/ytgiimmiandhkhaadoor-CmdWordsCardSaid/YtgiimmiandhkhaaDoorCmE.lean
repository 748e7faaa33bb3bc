/- The commands: a word is put where it belongs. Printed by gen-cme.py. -/
import Derived.Test.YtgiimmiandhkhaaDoorProg
import Derived.Test.YtgiimmiandhkhaaDoorCmD
import Derived.Lib.ReplaceLaws
import Derived.Lib.IndexAny
namespace Go.Proofs.YtgiimmiandhkhaaDoor
open Go.RowKit
set_option linter.unusedSimpArgs false
set_option linter.unusedVariables false

/-! ### one byte for another -/
theorem replK_join (old new : List UInt8) : ∀ (k : Nat) (s : List UInt8), Lib.replaceK old new k s = Lib.join (Lib.splitK old 0 k s) new
  | 0, s => by rw [Lib.replaceK, Lib.splitK, Lib.join_one]
  | k + 1, s => by
    rw [Lib.replaceK, Lib.splitK]
    split
    · rw [Lib.join_one]
    · rw [replK_join old new k, Lib.join_cons, Nat.add_zero, List.append_assoc]
      congr 1
      cases h : Lib.splitK old 0 k (s.drop ((Lib.index s old).toNat + old.length)) with
      | nil => cases k <;> rw [Lib.splitK] at h <;> first | cases h | (split at h <;> cases h)
      | cons y r => rw [Lib.join_cons]; simp [Lib.joinTail]
theorem join_map (a b : UInt8) : ∀ l : List UInt8, Lib.join (spl a l) [b] = l.map (fun x => if x = a then b else x)
  | [] => rfl
  | x :: l => by
    have ih := join_map a b l
    rw [List.map_cons, ← ih, spl]
    cases hs : spl a l with
    | nil => exact absurd hs (spl_ne a l)
    | cons y r =>
      rw [Lib.join_cons]
      by_cases h : x = a
      · rw [if_pos h, if_pos h, Lib.join_cons]
        simp [Lib.joinTail]
      · rw [if_neg h, if_neg h]
        simp only [consHd]
        rw [Lib.join_cons]; rfl
theorem repl_map (a b : UInt8) (hab : a ≠ b) (l : List UInt8) : Lib.replaceAll l [a] [b] = l.map (fun x => if x = a then b else x) := by
  unfold Lib.replaceAll Lib.replace Lib.replaceNum
  rw [if_neg (by simp [hab]), if_pos (.inl (by decide)), replK_join, splitK_spl, join_map]
theorem replAll_calls (s : ByteArray) (a b : UInt8) (hab : a ≠ b) (hs : s.size ≤ 1000000) (w : World) (hG : Gl w) :
    Calls Tryd.prog 31 #[.string s, .string ⟨#[a]⟩, .string ⟨#[b]⟩] w fun e w' => e = .returned (.string (mk (s.data.toList.map (fun x => if x = a then b else x)))) ∧ Ext NoB w w' := by
  obtain ⟨m, hm⟩ := hG.len
  have hc := Lib.countB_le ⟨#[a]⟩ (Nat.le_refl 1) s.size s (Nat.le_refl _)
  refine (Tryd.strings_ReplaceAll s ⟨#[a]⟩ ⟨#[b]⟩ m w (by omega) hm (Nat.le_refl 1) (by show s.size + _ * 1 ≤ _; omega)).mono ?_
  rintro e w' ⟨rfl, hb⟩
  refine ⟨?_, Ext.of_below hb⟩
  have : Lib.replaceAll s.data.toList [a] [b] = _ := repl_map a b hab s.data.toList
  rw [← this]; rfl
theorem contains_calls (s : ByteArray) (c : UInt8) (w : World) :
    Calls Tryd.prog 32 #[.string s, .string ⟨#[c]⟩] w fun e w' => e = .returned (.bool (s.data.toList.contains c)) ∧ w' = w := by
  rw [Lib.contains_iff_indexByte]
  exact Tryd.strings_Contains_one s c w

/-! ### a command in memory -/
/-- Block b holds the command c; what it leads to lies at lo and behind. -/
def CmAt (w : World) (b lo : Nat) (c : Cm) : Prop :=
  ∃ (bv pv : Value) (gb gp : Option Nat), w.heap[b]? = some (.cells #[.int .i64 c.k, .int .i64 c.t, .int .i64 c.p, .int .i64 c.i, .int .u64 c.n, .int .u64 c.m, bv, pv] 29 (0, 0)) ∧
    SlO w 81 3 opB gb bv c.body ∧ SlO w 3 1 intE gp pv c.preds ∧ gb ≠ some b ∧ gp ≠ some b ∧ (∀ q, gb = some q → lo ≤ q) ∧ (∀ q, gp = some q → lo ≤ q) ∧ b < lo ∧ (∀ q, gb = some q → gp ≠ some q)
theorem CmAt.keep {w w' : World} {b lo : Nat} {c : Cm} (h : CmAt w b lo c) (x : Ext NoB w w') : CmAt w' b lo c := by
  obtain ⟨bv, pv, gb, gp, h1, h2, h3, h4⟩ := h
  exact ⟨bv, pv, gb, gp, x.keep h1 nb, h2.keep x (fun _ _ => nb), h3.keep x (fun _ _ => nb), h4⟩
theorem intE_one (t : Int) : ∀ u ∈ intE t, u.oneCell' = true := by
  intro u hu
  simp only [intE, List.mem_cons, List.not_mem_nil, or_false] at hu
  subst hu; rfl
theorem elem_int : ElemT Tryd.prog 27 3 1 8 := elemT_of (z := .int .i64 0) Tryd.underlying27 (by kernel_rfl) rfl (by decide)

theorem num_lt18 {w : List UInt8} {m v : Nat} (hm : m ≤ 18) (h : numV w m = some v) : v < 1000000000000000000 :=
  Nat.lt_of_lt_of_le (numV_wide h) (Nat.pow_le_pow_right (by decide) hm)
theorem putV6 (c : Cm) (w : List UInt8) : putV c 6 w = if (parseV (comma w)).2 = 0 ∧ 32 ∉ w then some { c with body := (parseV (comma w)).1 } else none := rfl
theorem putV4 (c : Cm) (w : List UInt8) : putV c 4 w = (numV w 18).map (fun (v : Nat) => { c with n := (v : Int) }) := rfl
theorem putV5 (c : Cm) (w : List UInt8) : putV c 5 w = (numV w 18).map (fun (v : Nat) => { c with m := (v : Int) }) := rfl
theorem putV1 (c : Cm) (w : List UInt8) : putV c 1 w = (numV w 4).map (fun (v : Nat) => { c with t := (v : Int) }) := rfl
theorem putV2 (c : Cm) (w : List UInt8) : putV c 2 w = (numV w 4).map (fun (v : Nat) => { c with p := (v : Int) }) := rfl
theorem putV3 (c : Cm) (w : List UInt8) : putV c 3 w = (numV w 4).map (fun (v : Nat) => { c with i := (v : Int) }) := rfl
theorem putV7 (c : Cm) (w : List UInt8) : putV c 7 w = (numV w 4).bind (fun (v : Nat) => if c.preds.length + 1 ≤ 16 then some { c with preds := c.preds ++ [(v : Int)] } else none) := rfl
theorem putV0 (c : Cm) (what : Int) (w : List UInt8) (h : what ≠ 6 ∧ what ≠ 4 ∧ what ≠ 5 ∧ what ≠ 1 ∧ what ≠ 2 ∧ what ≠ 3 ∧ what ≠ 7) : putV c what w = none := by
  unfold putV
  rw [if_neg h.1, if_neg h.2.1, if_neg h.2.2.1, if_neg h.2.2.2.1, if_neg h.2.2.2.2.1, if_neg h.2.2.2.2.2.1, if_neg h.2.2.2.2.2.2]
/-- What a put leaves. -/
def PutOk (w w' : World) (b lo : Nat) (r : Option Cm) : Prop := (∀ c', r = some c' → CmAt w' b lo c') ∧ Ext (fun i => i = b ∨ lo ≤ i) w w'
theorem row_set {w : World} {b : Nat} {cs : Array Value} {T : TypeId} (j : Nat) (v : Value) (h : w.heap[b]? = some (.cells cs T (0, 0))) : (w.setCell ⟨b, j, none⟩ v).heap[b]? = some (.cells (cs.setIfInBounds j v) T (0, 0)) := heap_setCell_same w b j _ _ v h
theorem ext_cellAt (w : World) (b j : Nat) (v : Value) : Ext (· = b) w (w.setCell ⟨b, j, none⟩ v) := (Ext.refl (· = b) w).setCell (fun _ => rfl) _

set_option maxRecDepth 20000 in
set_option maxHeartbeats 8000000 in
theorem put4_calls (c : Cm) (b lo : Nat) (s : ByteArray) (hs : s.size ≤ 1000000) (w : World) (hG : Gl w) (hA : CmAt w b lo c) :
    Calls Tryd.prog 21 #[.pointer (some ⟨b, 0, none⟩), .int .i64 4, .string s] w fun e w' => e = .returned (.bool (putV c 4 s.data.toList).isSome) ∧ PutOk w w' b lo (putV c 4 s.data.toList) := by
  have hv := Lib.hid (putV4 c s.data.toList)
  have hn := Lib.hid (number_calls s 18 (by decide) hs w hG)
  go_enter Tryd.func21, Tryd.ntmps21
  go_wp2_with fail
  refine hn.out.mono ?_
  rintro e w1 ⟨n, rfl, hn64, hnv, hx1⟩
  obtain ⟨bv, pv, gb, gp, h1, h2, h3, h4, h5, h6, h7, h8, h9⟩ := hA.keep hx1
  have hnv := Lib.hid hnv
  have hv63 : ∀ v, numV s.data.toList 18 = some v → v < 1000000000000000000 := fun v h => num_lt18 (by decide) h
  have hv63 := Lib.hid hv63
  have f1 := cell_of_row w1 b 4 _ _ (0, 0) h1
  have f2 : w1.frozen? ⟨b, 4, none⟩ = false := by simp only [World.frozen?, h1]; rfl
  generalize hq : numV s.data.toList 18 = q at *
  have hq := Lib.hid hq
  clear hA
  cases q with
  | none =>
    have hv2 : Hid (putV c 4 s.data.toList = none) := by show _ = _; rw [hv.out]; rfl
    simp only [Option.isSome_none]
    go_wp2_with fail
    go_ret
    refine ⟨by rw [hv2.out]; rfl, fun c' h => (by rw [hv2.out] at h; cases h), ?_⟩
    first
      | exact (hx1.mono (fun _ _ e => e.elim)).setCell (fun _ => .inl rfl) _
      | exact (hx1.mono (fun _ _ e => e.elim))
  | some v =>
    obtain rfl := hnv.out v rfl
    have hlt := hv63.out n rfl
    have hv2 : Hid (putV c 4 s.data.toList = some { c with n := (n : Int) }) := by show _ = _; rw [hv.out]; rfl
    simp only [Option.isSome_some]
    go_wp2_with fail
    go_ret
    refine ⟨by rw [hv2.out]; rfl, fun c' h => ?_, (hx1.mono (fun _ _ e => e.elim)).setCell (fun _ => .inl rfl) _⟩
    rw [hv2.out] at h
    obtain rfl := Option.some.inj h
    have x2 := ext_cellAt w1 b 4 (.int .u64 (n : Int))
    exact ⟨bv, pv, gb, gp, row_set 4 _ h1, h2.keep x2 (fun q hq e => h4 (by rw [hq, e])), h3.keep x2 (fun q hq e => h5 (by rw [hq, e])), h4, h5, h6, h7, h8, h9⟩

set_option maxRecDepth 20000 in
set_option maxHeartbeats 8000000 in
theorem put5_calls (c : Cm) (b lo : Nat) (s : ByteArray) (hs : s.size ≤ 1000000) (w : World) (hG : Gl w) (hA : CmAt w b lo c) :
    Calls Tryd.prog 21 #[.pointer (some ⟨b, 0, none⟩), .int .i64 5, .string s] w fun e w' => e = .returned (.bool (putV c 5 s.data.toList).isSome) ∧ PutOk w w' b lo (putV c 5 s.data.toList) := by
  have hv := Lib.hid (putV5 c s.data.toList)
  have hn := Lib.hid (number_calls s 18 (by decide) hs w hG)
  go_enter Tryd.func21, Tryd.ntmps21
  go_wp2_with fail
  refine hn.out.mono ?_
  rintro e w1 ⟨n, rfl, hn64, hnv, hx1⟩
  obtain ⟨bv, pv, gb, gp, h1, h2, h3, h4, h5, h6, h7, h8, h9⟩ := hA.keep hx1
  have hnv := Lib.hid hnv
  have hv63 : ∀ v, numV s.data.toList 18 = some v → v < 1000000000000000000 := fun v h => num_lt18 (by decide) h
  have hv63 := Lib.hid hv63
  have f1 := cell_of_row w1 b 5 _ _ (0, 0) h1
  have f2 : w1.frozen? ⟨b, 5, none⟩ = false := by simp only [World.frozen?, h1]; rfl
  generalize hq : numV s.data.toList 18 = q at *
  have hq := Lib.hid hq
  clear hA
  cases q with
  | none =>
    have hv2 : Hid (putV c 5 s.data.toList = none) := by show _ = _; rw [hv.out]; rfl
    simp only [Option.isSome_none]
    go_wp2_with fail
    go_ret
    refine ⟨by rw [hv2.out]; rfl, fun c' h => (by rw [hv2.out] at h; cases h), ?_⟩
    first
      | exact (hx1.mono (fun _ _ e => e.elim)).setCell (fun _ => .inl rfl) _
      | exact (hx1.mono (fun _ _ e => e.elim))
  | some v =>
    obtain rfl := hnv.out v rfl
    have hlt := hv63.out n rfl
    have hv2 : Hid (putV c 5 s.data.toList = some { c with m := (n : Int) }) := by show _ = _; rw [hv.out]; rfl
    simp only [Option.isSome_some]
    go_wp2_with fail
    go_ret
    refine ⟨by rw [hv2.out]; rfl, fun c' h => ?_, (hx1.mono (fun _ _ e => e.elim)).setCell (fun _ => .inl rfl) _⟩
    rw [hv2.out] at h
    obtain rfl := Option.some.inj h
    have x2 := ext_cellAt w1 b 5 (.int .u64 (n : Int))
    exact ⟨bv, pv, gb, gp, row_set 5 _ h1, h2.keep x2 (fun q hq e => h4 (by rw [hq, e])), h3.keep x2 (fun q hq e => h5 (by rw [hq, e])), h4, h5, h6, h7, h8, h9⟩

set_option maxRecDepth 20000 in
set_option maxHeartbeats 8000000 in
theorem put1_calls (c : Cm) (b lo : Nat) (s : ByteArray) (hs : s.size ≤ 1000000) (w : World) (hG : Gl w) (hA : CmAt w b lo c) :
    Calls Tryd.prog 21 #[.pointer (some ⟨b, 0, none⟩), .int .i64 1, .string s] w fun e w' => e = .returned (.bool (putV c 1 s.data.toList).isSome) ∧ PutOk w w' b lo (putV c 1 s.data.toList) := by
  have hv := Lib.hid (putV1 c s.data.toList)
  have hn := Lib.hid (number_calls s 4 (by decide) hs w hG)
  go_enter Tryd.func21, Tryd.ntmps21
  go_wp2_with fail
  refine hn.out.mono ?_
  rintro e w1 ⟨n, rfl, hn64, hnv, hx1⟩
  obtain ⟨bv, pv, gb, gp, h1, h2, h3, h4, h5, h6, h7, h8, h9⟩ := hA.keep hx1
  have hnv := Lib.hid hnv
  have hv63 : ∀ v, numV s.data.toList 4 = some v → v < 1000000000000000000 := fun v h => num_lt18 (by decide) h
  have hv63 := Lib.hid hv63
  have f1 := cell_of_row w1 b 1 _ _ (0, 0) h1
  have f2 : w1.frozen? ⟨b, 1, none⟩ = false := by simp only [World.frozen?, h1]; rfl
  generalize hq : numV s.data.toList 4 = q at *
  have hq := Lib.hid hq
  clear hA
  cases q with
  | none =>
    have hv2 : Hid (putV c 1 s.data.toList = none) := by show _ = _; rw [hv.out]; rfl
    simp only [Option.isSome_none]
    go_wp2_with fail
    go_ret
    refine ⟨by rw [hv2.out]; rfl, fun c' h => (by rw [hv2.out] at h; cases h), ?_⟩
    first
      | exact (hx1.mono (fun _ _ e => e.elim)).setCell (fun _ => .inl rfl) _
      | exact (hx1.mono (fun _ _ e => e.elim))
  | some v =>
    obtain rfl := hnv.out v rfl
    have hlt := hv63.out n rfl
    have hv2 : Hid (putV c 1 s.data.toList = some { c with t := (n : Int) }) := by show _ = _; rw [hv.out]; rfl
    simp only [Option.isSome_some]
    go_wp2_with fail
    go_ret
    refine ⟨by rw [hv2.out]; rfl, fun c' h => ?_, (hx1.mono (fun _ _ e => e.elim)).setCell (fun _ => .inl rfl) _⟩
    rw [hv2.out] at h
    obtain rfl := Option.some.inj h
    have x2 := ext_cellAt w1 b 1 (.int .i64 (n : Int))
    exact ⟨bv, pv, gb, gp, row_set 1 _ h1, h2.keep x2 (fun q hq e => h4 (by rw [hq, e])), h3.keep x2 (fun q hq e => h5 (by rw [hq, e])), h4, h5, h6, h7, h8, h9⟩

set_option maxRecDepth 20000 in
set_option maxHeartbeats 8000000 in
theorem put2_calls (c : Cm) (b lo : Nat) (s : ByteArray) (hs : s.size ≤ 1000000) (w : World) (hG : Gl w) (hA : CmAt w b lo c) :
    Calls Tryd.prog 21 #[.pointer (some ⟨b, 0, none⟩), .int .i64 2, .string s] w fun e w' => e = .returned (.bool (putV c 2 s.data.toList).isSome) ∧ PutOk w w' b lo (putV c 2 s.data.toList) := by
  have hv := Lib.hid (putV2 c s.data.toList)
  have hn := Lib.hid (number_calls s 4 (by decide) hs w hG)
  go_enter Tryd.func21, Tryd.ntmps21
  go_wp2_with fail
  refine hn.out.mono ?_
  rintro e w1 ⟨n, rfl, hn64, hnv, hx1⟩
  obtain ⟨bv, pv, gb, gp, h1, h2, h3, h4, h5, h6, h7, h8, h9⟩ := hA.keep hx1
  have hnv := Lib.hid hnv
  have hv63 : ∀ v, numV s.data.toList 4 = some v → v < 1000000000000000000 := fun v h => num_lt18 (by decide) h
  have hv63 := Lib.hid hv63
  have f1 := cell_of_row w1 b 2 _ _ (0, 0) h1
  have f2 : w1.frozen? ⟨b, 2, none⟩ = false := by simp only [World.frozen?, h1]; rfl
  generalize hq : numV s.data.toList 4 = q at *
  have hq := Lib.hid hq
  clear hA
  cases q with
  | none =>
    have hv2 : Hid (putV c 2 s.data.toList = none) := by show _ = _; rw [hv.out]; rfl
    simp only [Option.isSome_none]
    go_wp2_with fail
    go_ret
    refine ⟨by rw [hv2.out]; rfl, fun c' h => (by rw [hv2.out] at h; cases h), ?_⟩
    first
      | exact (hx1.mono (fun _ _ e => e.elim)).setCell (fun _ => .inl rfl) _
      | exact (hx1.mono (fun _ _ e => e.elim))
  | some v =>
    obtain rfl := hnv.out v rfl
    have hlt := hv63.out n rfl
    have hv2 : Hid (putV c 2 s.data.toList = some { c with p := (n : Int) }) := by show _ = _; rw [hv.out]; rfl
    simp only [Option.isSome_some]
    go_wp2_with fail
    go_ret
    refine ⟨by rw [hv2.out]; rfl, fun c' h => ?_, (hx1.mono (fun _ _ e => e.elim)).setCell (fun _ => .inl rfl) _⟩
    rw [hv2.out] at h
    obtain rfl := Option.some.inj h
    have x2 := ext_cellAt w1 b 2 (.int .i64 (n : Int))
    exact ⟨bv, pv, gb, gp, row_set 2 _ h1, h2.keep x2 (fun q hq e => h4 (by rw [hq, e])), h3.keep x2 (fun q hq e => h5 (by rw [hq, e])), h4, h5, h6, h7, h8, h9⟩

set_option maxRecDepth 20000 in
set_option maxHeartbeats 8000000 in
theorem put3_calls (c : Cm) (b lo : Nat) (s : ByteArray) (hs : s.size ≤ 1000000) (w : World) (hG : Gl w) (hA : CmAt w b lo c) :
    Calls Tryd.prog 21 #[.pointer (some ⟨b, 0, none⟩), .int .i64 3, .string s] w fun e w' => e = .returned (.bool (putV c 3 s.data.toList).isSome) ∧ PutOk w w' b lo (putV c 3 s.data.toList) := by
  have hv := Lib.hid (putV3 c s.data.toList)
  have hn := Lib.hid (number_calls s 4 (by decide) hs w hG)
  go_enter Tryd.func21, Tryd.ntmps21
  go_wp2_with fail
  refine hn.out.mono ?_
  rintro e w1 ⟨n, rfl, hn64, hnv, hx1⟩
  obtain ⟨bv, pv, gb, gp, h1, h2, h3, h4, h5, h6, h7, h8, h9⟩ := hA.keep hx1
  have hnv := Lib.hid hnv
  have hv63 : ∀ v, numV s.data.toList 4 = some v → v < 1000000000000000000 := fun v h => num_lt18 (by decide) h
  have hv63 := Lib.hid hv63
  have f1 := cell_of_row w1 b 3 _ _ (0, 0) h1
  have f2 : w1.frozen? ⟨b, 3, none⟩ = false := by simp only [World.frozen?, h1]; rfl
  generalize hq : numV s.data.toList 4 = q at *
  have hq := Lib.hid hq
  clear hA
  cases q with
  | none =>
    have hv2 : Hid (putV c 3 s.data.toList = none) := by show _ = _; rw [hv.out]; rfl
    simp only [Option.isSome_none]
    go_wp2_with fail
    go_ret
    refine ⟨by rw [hv2.out]; rfl, fun c' h => (by rw [hv2.out] at h; cases h), ?_⟩
    first
      | exact (hx1.mono (fun _ _ e => e.elim)).setCell (fun _ => .inl rfl) _
      | exact (hx1.mono (fun _ _ e => e.elim))
  | some v =>
    obtain rfl := hnv.out v rfl
    have hlt := hv63.out n rfl
    have hv2 : Hid (putV c 3 s.data.toList = some { c with i := (n : Int) }) := by show _ = _; rw [hv.out]; rfl
    simp only [Option.isSome_some]
    go_wp2_with fail
    go_ret
    refine ⟨by rw [hv2.out]; rfl, fun c' h => ?_, (hx1.mono (fun _ _ e => e.elim)).setCell (fun _ => .inl rfl) _⟩
    rw [hv2.out] at h
    obtain rfl := Option.some.inj h
    have x2 := ext_cellAt w1 b 3 (.int .i64 (n : Int))
    exact ⟨bv, pv, gb, gp, row_set 3 _ h1, h2.keep x2 (fun q hq e => h4 (by rw [hq, e])), h3.keep x2 (fun q hq e => h5 (by rw [hq, e])), h4, h5, h6, h7, h8, h9⟩

set_option maxRecDepth 20000 in
set_option maxHeartbeats 8000000 in
theorem put0_calls (c : Cm) (b lo : Nat) (what : Int) (h : what ≠ 6 ∧ what ≠ 4 ∧ what ≠ 5 ∧ what ≠ 1 ∧ what ≠ 2 ∧ what ≠ 3 ∧ what ≠ 7) (s : ByteArray) (hs : s.size ≤ 1000000) (w : World) (hG : Gl w) (hA : CmAt w b lo c) :
    Calls Tryd.prog 21 #[.pointer (some ⟨b, 0, none⟩), .int .i64 what, .string s] w fun e w' => e = .returned (.bool (putV c what s.data.toList).isSome) ∧ PutOk w w' b lo (putV c what s.data.toList) := by
  have hv := Lib.hid (putV0 c what s.data.toList h)
  have hn := Lib.hid (number_calls s 4 (by decide) hs w hG)
  have t6 : (what == 6) = false := by rw [beq_eq_false_iff_ne]; omega
  have t4 : (what == 4) = false := by rw [beq_eq_false_iff_ne]; omega
  have t5 : (what == 5) = false := by rw [beq_eq_false_iff_ne]; omega
  have t1 : (what == 1) = false := by rw [beq_eq_false_iff_ne]; omega
  have t2 : (what == 2) = false := by rw [beq_eq_false_iff_ne]; omega
  have t3 : (what == 3) = false := by rw [beq_eq_false_iff_ne]; omega
  have t7 : (what == 7) = false := by rw [beq_eq_false_iff_ne]; omega
  clear h
  go_enter Tryd.func21, Tryd.ntmps21
  go_wp2_with fail
  refine hn.out.mono ?_
  rintro e w1 ⟨n, rfl, hn64, hnv, hx1⟩
  go_wp2_with fail
  go_ret
  exact ⟨by rw [hv.out]; rfl, fun c' h => (by rw [hv.out] at h; cases h), hx1.mono (fun _ _ e => e.elim)⟩

set_option maxRecDepth 20000 in
set_option maxHeartbeats 8000000 in
theorem put7_calls (c : Cm) (b lo : Nat) (s : ByteArray) (hs : s.size ≤ 1000000) (w : World) (hG : Gl w) (hA : CmAt w b lo c) (hw : lo ≤ w.heap.size) (hfew : c.preds.length ≤ 16) :
    Calls Tryd.prog 21 #[.pointer (some ⟨b, 0, none⟩), .int .i64 7, .string s] w fun e w' => e = .returned (.bool (putV c 7 s.data.toList).isSome) ∧ PutOk w w' b lo (putV c 7 s.data.toList) := by
  have hv := Lib.hid (putV7 c s.data.toList)
  have hn := Lib.hid (number_calls s 4 (by decide) hs w hG)
  go_enter Tryd.func21, Tryd.ntmps21
  go_wp2_with fail
  refine hn.out.mono ?_
  rintro e w1 ⟨n, rfl, hn64, hnv, hx1⟩
  obtain ⟨bv, pv, gb, gp, h1, h2, h3, h4, h5, h6, h7, h8, h9⟩ := hA.keep hx1
  have hnv := Lib.hid hnv
  have hw1 := hx1.size
  have f1 := cell_of_row w1 b 7 _ _ (0, 0) h1
  have hq63 : Hid (∀ v, numV s.data.toList 4 = some v → v < 1000000000000000000) := fun v h => num_lt18 (by decide) h
  generalize hq : numV s.data.toList 4 = q at *
  have hq := Lib.hid hq
  have hb1 : (c.preds.length + 1) * 8 ≤ 140737488355328 := by omega
  have hb2 : c.preds.length + 1 ≤ maxLen := by unfold maxLen; omega
  clear hA
  have y1 : ∀ ob, (w1.alloc ob).heap[b]? = _ := fun ob => ((Ext.refl NoB w1).alloc ob).keep h1 nb
  cases q with
  | none =>
    have hv2 : Hid (putV c 7 s.data.toList = none) := by show _ = _; rw [hv.out]; rfl
    simp only [Option.isSome_none]
    go_wp2_with (at_builtin; go_loud (refine wpList_appendO (ys := [_]) rfl rfl elem_int intE_len intE_one (h3.keep ((Ext.refl NoB _).alloc _) (fun _ _ => nb)) rfl (SlR.one' (alloc_at' _ _ _ (by simp)) rfl) rfl rfl hb1 hb2 (fun v' w5 g' hO' hx5 hg' => ?_); have n3 := hx5.keep (y1 _) (fun e => h5 e); have n3f : w5.frozen? ⟨b, 7, none⟩ = false := (by simp only [World.frozen?, n3]; rfl); have n3c := cell_of_row w5 b 7 _ _ (0, 0) n3; obtain ⟨A5, c5, b5, o5, rfl, hr5, hg5⟩ := hO'.read; rw [List.length_append, List.length_singleton] at *))
    go_ret
    refine ⟨by rw [hv2.out]; rfl, fun c' h => (by rw [hv2.out] at h; cases h), ?_⟩
    exact (((hx1.mono (G := fun i => i = b ∨ lo ≤ i) (fun _ _ e => e.elim)).alloc _).trans hx5 (fun i _ e => .inr (h7 i e))).setCell (fun _ => .inl rfl) _
  | some v =>
    obtain rfl := hnv.out v rfl
    have hlt := hq63.out n rfl
    simp only [Option.isSome_some]
    by_cases h16 : c.preds.length + 1 ≤ 16
    · have hv2 : Hid (putV c 7 s.data.toList = some { c with preds := c.preds ++ [(n : Int)] }) := by show _ = _; rw [hv.out]; show (if _ then _ else _) = _; rw [if_pos h16]
      have t16 : decide (c.preds.length + 1 ≤ 16) = true := by simp [h16]
      have t16' : decide ((c.preds.length : Int) + 1 ≤ 16) = true := by simp; omega
      go_wp2_with (at_builtin; go_loud (refine wpList_appendO (ys := [(n : Int)]) rfl rfl elem_int intE_len intE_one (h3.keep ((Ext.refl NoB _).alloc _) (fun _ _ => nb)) rfl (SlR.one' (alloc_at' _ _ _ (by simp)) rfl) rfl rfl hb1 hb2 (fun v' w5 g' hO' hx5 hg' => ?_); have n3 := hx5.keep (y1 _) (fun e => h5 e); have n3f : w5.frozen? ⟨b, 7, none⟩ = false := (by simp only [World.frozen?, n3]; rfl); have n3c := cell_of_row w5 b 7 _ _ (0, 0) n3; obtain ⟨A5, c5, b5, o5, rfl, hr5, hg5⟩ := hO'.read; rw [List.length_append, List.length_singleton] at hO' ⊢))
      go_ret
      refine ⟨by rw [hv2.out]; rfl, fun c' h => ?_, (((hx1.mono (G := fun i => i = b ∨ lo ≤ i) (fun _ _ e => e.elim)).alloc _).trans hx5 (fun i _ e => .inr (h7 i e))).setCell (fun _ => .inl rfl) _⟩
      rw [hv2.out] at h
      obtain rfl := Option.some.inj h
      have hbl := lt_of_block h1
      have hg5 : g' ≠ some b := by rcases hg' with rfl | rfl; exact h5; intro e; simp at e; omega
      have hg7 : ∀ q, g' = some q → lo ≤ q := by
        rcases hg' with rfl | rfl
        · exact h7
        · intro q e; simp at e; omega
      have hg9 : ∀ q, gb = some q → g' ≠ some q := by
        intro q hq
        rcases hg' with rfl | rfl
        · exact h9 q hq
        · have := h2.lt hq
          intro e
          simp at e
          omega
      have x2 := ext_cellAt w5 b 7 (.slice A5 (c.preds.length + 1) c5)
      exact ⟨bv, _, gb, g', row_set 7 _ n3, (((h2.keep ((Ext.refl NoB _).alloc _) (fun _ _ => nb)).keep hx5 h9).keep x2 (fun q hq e => h4 (by rw [hq, e]))), hO'.keep x2 (fun q hq e => hg5 (by rw [hq, e])), h4, hg5, h6, hg7, h8, hg9⟩
    · have hv2 : Hid (putV c 7 s.data.toList = none) := by show _ = _; rw [hv.out]; show (if _ then _ else _) = _; rw [if_neg h16]
      have t16 : decide (c.preds.length + 1 ≤ 16) = false := by simp; omega
      have t16' : decide ((c.preds.length : Int) + 1 ≤ 16) = false := by simp; omega
      go_wp2_with (at_builtin; go_loud (refine wpList_appendO (ys := [(n : Int)]) rfl rfl elem_int intE_len intE_one (h3.keep ((Ext.refl NoB _).alloc _) (fun _ _ => nb)) rfl (SlR.one' (alloc_at' _ _ _ (by simp)) rfl) rfl rfl hb1 hb2 (fun v' w5 g' hO' hx5 hg' => ?_); have n3 := hx5.keep (y1 _) (fun e => h5 e); have n3f : w5.frozen? ⟨b, 7, none⟩ = false := (by simp only [World.frozen?, n3]; rfl); have n3c := cell_of_row w5 b 7 _ _ (0, 0) n3; obtain ⟨A5, c5, b5, o5, rfl, hr5, hg5⟩ := hO'.read; rw [List.length_append, List.length_singleton] at hO' ⊢))
      go_ret
      refine ⟨by rw [hv2.out]; rfl, fun c' h => (by rw [hv2.out] at h; cases h), ?_⟩
      exact (((hx1.mono (G := fun i => i = b ∨ lo ≤ i) (fun _ _ e => e.elim)).alloc _).trans hx5 (fun i _ e => .inr (h7 i e))).setCell (fun _ => .inl rfl) _

set_option maxRecDepth 20000 in
set_option maxHeartbeats 8000000 in
theorem put6_calls (c : Cm) (b lo : Nat) (s : ByteArray) (hs : s.size ≤ 1000000) (w : World) (hG : Gl w) (hA : CmAt w b lo c) (hw : lo ≤ w.heap.size) :
    Calls Tryd.prog 21 #[.pointer (some ⟨b, 0, none⟩), .int .i64 6, .string s] w fun e w' => e = .returned (.bool (putV c 6 s.data.toList).isSome) ∧ PutOk w w' b lo (putV c 6 s.data.toList) := by
  have hv := Lib.hid (putV6 c s.data.toList)
  have hr := Lib.hid (replAll_calls s 44 32 (by decide) hs w hG)
  go_enter Tryd.func21, Tryd.ntmps21
  go_wp2_with fail
  refine hr.out.mono ?_
  rintro e w1 ⟨rfl, hx1⟩
  have hcd : (mk (comma s.data.toList)).data.toList = comma s.data.toList := by simp [mk]
  have hp := Lib.hid (parse_calls (mk (comma s.data.toList)) w1 (hG.keep hx1))
  rw [hcd] at hp
  have hce : mk (s.data.toList.map (fun x => if x = 44 then 32 else x)) = mk (comma s.data.toList) := rfl
  rw [hce]
  generalize mk (comma s.data.toList) = S1 at *
  go_wp2_with fail
  refine hp.out.mono ?_
  rintro e w2 ⟨v, g, rfl, hO, hx2, hg⟩
  have hx02 := hx1.trans hx2 (fun _ _ e => e)
  obtain ⟨bv, pv, gb, gp, k1, k2, k3, h4, h5, h6, h7, h8, h9⟩ := hA
  have h1 := hx02.keep k1 nb
  have h3 := k3.keep hx02 (fun _ _ => nb)
  have k3l : ∀ q, gp = some q → q < w.heap.size := fun q hq => k3.lt hq
  have hg1 : ∀ q, g = some q → w.heap.size ≤ q := fun q hq => Nat.le_trans hx1.size (hg q hq)
  have hbl := lt_of_block k1
  have f1 := cell_of_row w2 b 6 _ _ (0, 0) h1
  have f2 : w2.frozen? ⟨b, 6, none⟩ = false := by simp only [World.frozen?, h1]; rfl
  obtain ⟨A2, c2, b2, o2, rfl, hr2, hgp2⟩ := hO.read
  have hcs := Lib.hid (fun w' => contains_calls s 32 w')
  have hex : Hid (∀ l er, (parseV (comma s.data.toList)) = (l, er) → putV c 6 s.data.toList = if er = 0 ∧ 32 ∉ s.data.toList then some { c with body := l } else none) := by
    intro l er h
    rw [hv.out, h]
  generalize hpr : parseV (comma s.data.toList) = pr at *
  obtain ⟨l, er⟩ := pr
  dsimp only at *
  have hex := Lib.hid (hex.out l er rfl)
  clear hv hpr
  have hrow := row_set 6 (.slice A2 l.length c2) h1
  have x3 := ext_cellAt w2 b 6 (.slice A2 l.length c2)
  have xlo := (hx02.mono (G := fun i => i = b ∨ lo ≤ i) (fun _ _ e => e.elim)).setCell (p := ⟨b, 6, none⟩) (fun _ => .inl rfl) (.slice A2 l.length c2)
  by_cases he : er = 0
  · subst he
    by_cases h32 : 32 ∈ s.data.toList
    · have hv2 : Hid (putV c 6 s.data.toList = none) := by show _ = _; rw [hex.out, if_neg (fun h => h.2 h32)]
      have hct : s.data.toList.contains 32 = true := by simpa using h32
      go_wp2_with (go_at_call 32; refine (hcs.out _).mono ?_; rintro e w' ⟨rfl, rfl⟩; rw [hct])
      go_ret
      exact ⟨by rw [hv2.out]; rfl, fun c' h => (by rw [hv2.out] at h; cases h), xlo⟩
    · have hv2 : Hid (putV c 6 s.data.toList = some { c with body := l }) := by show _ = _; rw [hex.out, if_pos ⟨rfl, h32⟩]
      have hct : s.data.toList.contains 32 = false := by rw [Bool.eq_false_iff]; intro h; exact h32 (by simpa using h)
      go_wp2_with (go_at_call 32; refine (hcs.out _).mono ?_; rintro e w' ⟨rfl, rfl⟩; rw [hct])
      go_ret
      refine ⟨by rw [hv2.out]; rfl, fun c' h => ?_, xlo⟩
      rw [hv2.out] at h
      obtain rfl := Option.some.inj h
      have hgb : g ≠ some b := fun e => by have := hg1 b e; omega
      have hgl : ∀ q, g = some q → lo ≤ q := fun q hq => Nat.le_trans hw (hg1 q hq)
      exact ⟨_, pv, g, gp, hrow, hO.keep x3 (fun q hq e => hgb (by rw [hq, e])), h3.keep x3 (fun q hq e => h5 (by rw [hq, e])), hgb, h5, hgl, h7, h8, fun q hq e => by have := hg1 q hq; have := k3l q e; omega⟩
  · have hv2 : Hid (putV c 6 s.data.toList = none) := by show _ = _; rw [hex.out, if_neg (fun h => he h.1)]
    have t0 : (er == 0) = false := by rw [beq_eq_false_iff_ne]; exact he
    go_wp2_with fail
    go_ret
    exact ⟨by rw [hv2.out]; rfl, fun c' h => (by rw [hv2.out] at h; cases h), xlo⟩

theorem putV_keeps {c c' : Cm} {what : Int} {w : List UInt8} (h : putV c what w = some c') (hf : c.preds.length ≤ 16) : c'.k = c.k ∧ c'.preds.length ≤ 16 := by
  unfold putV at h
  split at h
  · split at h
    · cases h; exact ⟨rfl, hf⟩
    · cases h
  · split at h
    · obtain ⟨v, _, rfl⟩ := Option.map_eq_some_iff.1 h; exact ⟨rfl, hf⟩
    · split at h
      · obtain ⟨v, _, rfl⟩ := Option.map_eq_some_iff.1 h; exact ⟨rfl, hf⟩
      · split at h
        · obtain ⟨v, _, rfl⟩ := Option.map_eq_some_iff.1 h; exact ⟨rfl, hf⟩
        · split at h
          · obtain ⟨v, _, rfl⟩ := Option.map_eq_some_iff.1 h; exact ⟨rfl, hf⟩
          · split at h
            · obtain ⟨v, _, rfl⟩ := Option.map_eq_some_iff.1 h; exact ⟨rfl, hf⟩
            · split at h
              · obtain ⟨v, _, h2⟩ := Option.bind_eq_some_iff.1 h
                split at h2
                · rename_i hl; cases h2; exact ⟨rfl, by simp; omega⟩
                · cases h2
              · cases h
theorem put_calls (c : Cm) (b lo : Nat) (what : Int) (s : ByteArray) (hs : s.size ≤ 1000000) (w : World) (hG : Gl w) (hA : CmAt w b lo c) (hw : lo ≤ w.heap.size) (hfew : c.preds.length ≤ 16) :
    Calls Tryd.prog 21 #[.pointer (some ⟨b, 0, none⟩), .int .i64 what, .string s] w fun e w' => e = .returned (.bool (putV c what s.data.toList).isSome) ∧ PutOk w w' b lo (putV c what s.data.toList) := by
  by_cases h6 : what = 6
  · subst h6; exact put6_calls c b lo s hs w hG hA hw
  by_cases h4 : what = 4
  · subst h4; exact put4_calls c b lo s hs w hG hA
  by_cases h5 : what = 5
  · subst h5; exact put5_calls c b lo s hs w hG hA
  by_cases h1 : what = 1
  · subst h1; exact put1_calls c b lo s hs w hG hA
  by_cases h2 : what = 2
  · subst h2; exact put2_calls c b lo s hs w hG hA
  by_cases h3 : what = 3
  · subst h3; exact put3_calls c b lo s hs w hG hA
  by_cases h7 : what = 7
  · subst h7; exact put7_calls c b lo s hs w hG hA hw hfew
  exact put0_calls c b lo what ⟨h6, h4, h5, h1, h2, h3, h7⟩ s hs w hG hA

set_option maxRecDepth 20000 in
set_option maxHeartbeats 8000000 in
theorem fill_calls (k : Int) (b : Nat) (A : Option Addr) (cc bs o : Nat) (ws : List ByteArray) (w0 w : World) (hG0 : Gl w0) (hx0 : Ext NoB w0 w) (hb0 : w0.heap.size ≤ b) (hb : w.heap[b]? = some (.cells #[.int .i64 k, .int .i64 0, .int .i64 0, .int .i64 0, .int .u64 0, .int .u64 0, .slice none 0 0, .slice none 0 0] 29 (0, 0)))
    (hws : SlR w 1 strE A cc bs o ws) (hbs : bs ≠ b) (hbl : bs < w.heap.size) (hsz : ∀ x ∈ ws, x.size ≤ 1000000) :
    Calls Tryd.prog 15 #[.pointer (some ⟨b, 0, none⟩), .slice A ws.length cc] w fun e w' => e = .returned (.bool (fillV k 0 (Cm.zero k) (ws.map (fun x => x.data.toList))).isSome) ∧
      (∀ c', fillV k 0 (Cm.zero k) (ws.map (fun x => x.data.toList)) = some c' → ∃ lo, w.heap.size ≤ lo ∧ CmAt w' b lo c') ∧ Ext (· = b) w w' := by
  generalize hRd : fillV k 0 (Cm.zero k) (ws.map (fun x => x.data.toList)) = R
  have hRd := Lib.hid hRd
  have hblt := lt_of_block hb
  have hm := hws.max
  have hl := hws.le
  unfold maxLen at hm
  have hsz := Lib.hid hsz
  go_enter Tryd.func15, Tryd.ntmps15
  go_wp2_with fail
  refine (places_calls w).mono ?_
  rintro e w1 ⟨r, m, rfl, hM, hp, hx1, hr⟩
  have hw1 := hx1.size
  have hrl := hM.lt
  have hp := Lib.hid hp
  have hb1 := hx1.keep hb nb
  have hA0 : CmAt w1 b w1.heap.size (Cm.zero k) := ⟨_, _, none, none, hb1, SlO.nil _ _ _ _, SlO.nil _ _ _ _, by simp, by simp, by simp, by simp, by omega, by simp⟩
  have hws1 := hws.keep hx1 nb1
  obtain ⟨lo, hlo⟩ : ∃ lo, w1.heap.size = lo := ⟨_, rfl⟩
  rw [hlo] at hA0 hrl hw1
  clear hb
  go_wp2_with fail
  go_loopw [6, 15] (fun iv jv wr => ∃ (j i : Nat) (c : Cm), j ≤ ws.length ∧ i ≤ j ∧ iv = .int .i64 (i : Int) ∧ jv = .int .i64 (j : Int) ∧ CmAt wr b lo c ∧ c.k = k ∧ c.preds.length ≤ 16 ∧ Hid (fillV k (i : Int) c ((ws.drop j).map (fun x => x.data.toList)) = R) ∧ Ext (fun i => i = b ∨ lo ≤ i) w1 wr) (fun _ jv _ => ws.length - (intOf jv).toNat)
  case atStart => exact ⟨0, 0, Cm.zero k, Nat.zero_le _, Nat.le_refl _, rfl, rfl, hA0, rfl, Nat.zero_le _, hRd.out, Ext.refl _ _⟩
  case round =>
    obtain ⟨j, i, c, hj, hij, rfl, rfl, hA, hck, hcf, hinv, hext⟩ := hrel
    have hMr := hM.keep hext (by omega)
    have hlk := place_look hMr hp.out k i
    have hlk2 := place_look2 hMr hp.out k i
    obtain ⟨bv, pv, gb, gp, hrow, _⟩ := id hA
    have f0 := cell_of_row wr b 0 _ _ (0, 0) hrow
    rw [hck] at f0
    have f0 : wr.cell? ⟨b, 0, none⟩ = some (.int .i64 k) := f0
    have hwr : lo ≤ wr.heap.size := by have := hext.size; omega
    have hGr : Gl wr := hG0.keep' ((hx0.trans hx1 (fun _ _ e => e)).mono (G := fun i => i = b ∨ lo ≤ i) (fun _ _ e => e.elim) |>.trans hext (fun _ _ e => e)) (fun i hi e => by have := hx0.size; have := hx1.size; omega)
    clear hrow hM
    by_cases hlt : j < ws.length
    · have t0 : decide (j < ws.length) = true := by simp [hlt]
      have t0' : decide ((j : Int) < (ws.length : Int)) = true := by simp [hlt]
      obtain rfl := hws1.addr (by omega)
      have hcell := str_cells (hws1.keep hext (fun _ => by omega)) j ws[j] (List.getElem?_eq_getElem hlt)
      have hszj := hsz.out _ (List.getElem_mem hlt)
      have hdr : Hid ((ws.drop j).map (fun x => x.data.toList) = ws[j].data.toList :: (ws.drop (j + 1)).map (fun x => x.data.toList)) := by show _ = _; rw [List.drop_eq_getElem_cons hlt, List.map_cons]
      generalize ws[j] = x at *
      have hstep : Hid (R = (putV c (placeOf k i) x.data.toList).bind (fun c' => fillV k (if placeOf k i = 7 then (i : Int) else (i : Int) + 1) c' ((ws.drop (j + 1)).map (fun x => x.data.toList)))) := by show _ = _; rw [← hinv.out, hdr.out, fillV]
      have hpc := Lib.hid (put_calls c b lo (placeOf k i) x hszj wr hGr hA hwr hcf)
      generalize placeOf k i = pl at *
      go_wp2_with fail
      refine hpc.out.mono ?_
      rintro e w2 ⟨rfl, hok, hx2⟩
      cases hq : putV c pl x.data.toList with
      | none =>
        have hRn : Hid (R = none) := by show _ = _; rw [hstep.out, hq]; rfl
        simp only [Option.isSome_none]
        go_wp2_with fail
        go_ret
        refine ⟨by rw [hRn.out]; rfl, fun c' h => (by rw [hRn.out] at h; cases h), ?_⟩
        exact (hx1.mono (fun _ _ e => e.elim)).trans (hext.trans hx2 (fun _ _ e => e)) (fun i hi e => by omega)
      | some c2 =>
        have hA2 := hok c2 hq
        have hkp := putV_keeps hq hcf
        have hR2 : Hid (R = fillV k (if pl = 7 then (i : Int) else (i : Int) + 1) c2 ((ws.drop (j + 1)).map (fun x => x.data.toList))) := by show _ = _; rw [hstep.out, hq]; rfl
        simp only [Option.isSome_some]
        by_cases h7 : pl = 7
        · have t7 : (pl != 7) = false := by simp [h7]
          have hR3 : Hid (fillV k (i : Int) c2 ((ws.drop (j + 1)).map (fun x => x.data.toList)) = R) := by show _ = _; rw [hR2.out, if_pos h7]
          clear h7
          go_wp2_with fail
          go_roundw
          case rel => exact ⟨j + 1, i, c2, by omega, by omega, rfl, by go_num, hA2, by rw [hkp.1]; exact hck, hkp.2, hR3.out, hext.trans hx2 (fun _ _ e => e)⟩
          case measure => simp [intOf]; omega
        · have t7 : (pl != 7) = true := by simp [h7]
          have hR3 : Hid (fillV k ((i + 1 : Nat) : Int) c2 ((ws.drop (j + 1)).map (fun x => x.data.toList)) = R) := by show _ = _; rw [hR2.out, if_neg h7]; rfl
          clear h7
          go_wp2_with fail
          go_roundw
          case rel => exact ⟨j + 1, i + 1, c2, by omega, by omega, by go_num, by go_num, hA2, by rw [hkp.1]; exact hck, hkp.2, hR3.out, hext.trans hx2 (fun _ _ e => e)⟩
          case measure => simp [intOf]; omega
    · have t0 : decide (j < ws.length) = false := by simp [hlt]
      have t0' : decide ((j : Int) < (ws.length : Int)) = false := by simp [hlt]
      obtain rfl : j = ws.length := by omega
      have hfin : Hid (R = if placeOf k i = 0 ∨ placeOf k i = 7 then some c else none) := by show _ = _; rw [← hinv.out, List.drop_length, List.map_nil, fillV]
      have xf := (hx1.mono (G := (· = b)) (fun _ _ e => e.elim)).trans hext (fun i hi e => by omega)
      by_cases h0 : placeOf k i = 0
      · have hR2 : Hid (R = some c) := by show _ = _; rw [hfin.out, if_pos (.inl h0)]
        rw [h0] at hlk2
        clear hlk
        simp only [ne_eq, not_true_eq_false, decide_false] at hlk2
        go_wp2_with fail
        go_ret
        refine ⟨by rw [hR2.out]; rfl, fun c' h => ?_, xf⟩
        rw [hR2.out] at h
        obtain rfl := Option.some.inj h
        exact ⟨lo, by omega, hA⟩
      · have hd : decide (placeOf k i ≠ 0) = true := by simp [h0]
        rw [hd] at hlk2
        by_cases h7 : placeOf k i = 7
        · have hR2 : Hid (R = some c) := by show _ = _; rw [hfin.out, if_pos (.inr h7)]
          rw [h7] at hlk2
          clear hlk
          go_wp2_with fail
          go_ret
          refine ⟨by rw [hR2.out]; rfl, fun c' h => ?_, xf⟩
          rw [hR2.out] at h
          obtain rfl := Option.some.inj h
          exact ⟨lo, by omega, hA⟩
        · have hR2 : Hid (R = none) := by show _ = _; rw [hfin.out, if_neg (fun e => e.elim h0 h7)]
          have t7 : (placeOf k i == 7) = false := by rw [beq_eq_false_iff_ne]; exact h7
          generalize placeOf k i = pl at *
          clear hlk
          go_wp2_with fail
          go_ret
          exact ⟨by rw [hR2.out]; rfl, fun c' h => (by rw [hR2.out] at h; cases h), xf⟩
end Go.Proofs.YtgiimmiandhkhaaDoor
