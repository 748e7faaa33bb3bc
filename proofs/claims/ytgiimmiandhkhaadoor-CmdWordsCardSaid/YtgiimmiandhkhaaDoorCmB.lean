/- The commands: a command's line, and why what is read is told again (plain). Printed by gen-cmb.py. -/
import Derived.Test.YtgiimmiandhkhaaDoorProg
import Derived.Test.YtgiimmiandhkhaaDoorCmA
namespace Go.Proofs.YtgiimmiandhkhaaDoor
open Go.RowKit
set_option linter.unusedSimpArgs false
set_option linter.unusedVariables false

def wordOf (k : Int) : List UInt8 := (cmNames[(k - 1).toNat]?).getD []
def uncomma (w : List UInt8) : List UInt8 := w.map (fun b => if b = 32 then 44 else b)
def bodyC (l : List BOp) : List UInt8 := uncomma (if okB l then textL l else [])
/-- What stands at a place. -/
def toldC (c : Cm) (what : Int) : List UInt8 :=
  if what = 1 then Lib.itoa c.t else if what = 2 then Lib.itoa c.p else if what = 3 then Lib.itoa c.i
  else if what = 4 then Lib.decDigits c.n.toNat else if what = 5 then Lib.decDigits c.m.toNat else bodyC c.body
def argC (c : Cm) (f : UInt8) : List (List UInt8) := if f = 108 then (c.preds.take 17).map Lib.itoa else [toldC c (signOf f)]
def argsC (c : Cm) : List (List UInt8) := (cmForm c.k.toNat).flatMap (argC c)
/-- A command's line, as it would be. -/
def lineV (c : Cm) : List UInt8 := Lib.join (wordOf c.k :: argsC c) [32]

theorem parse_told {x : List UInt8} (h : (parseV x).2 = 0) : okB (parseV x).1 = true ∧ textL (parseV x).1 = x := by
  unfold parseV at h ⊢
  split at h
  · cases h
  · rename_i h1
    rw [if_neg h1]
    split at h
    · rename_i h2
      rw [if_pos h2, h2]
      exact ⟨rfl, rfl⟩
    · rename_i h2
      rw [if_neg h2]
      cases hr : readAll (spl 59 x) with
      | none => rw [hr] at h; cases h
      | some l =>
        rw [hr] at h
        simp only [] at h ⊢
        split at h
        · rename_i h3
          rw [if_pos h3]
          exact h3
        · cases h
theorem uncomma_comma (w : List UInt8) (h : 32 ∉ w) : uncomma (comma w) = w := by
  unfold uncomma comma
  rw [List.map_map]
  have : ∀ b ∈ w, ((fun b => if b = 32 then 44 else b) ∘ (fun b : UInt8 => if b = 44 then 32 else b)) b = b := by
    intro b hb
    show (if (if b = 44 then (32 : UInt8) else b) = 32 then (44 : UInt8) else (if b = 44 then 32 else b)) = b
    by_cases h44 : b = 44
    · subst h44; rfl
    · rw [if_neg h44, if_neg (fun e => h (by rw [← e]; exact hb))]
  exact (List.map_congr_left this).trans (List.map_id' w)
theorem body_told {w : List UInt8} (h : (parseV (comma w)).2 = 0) (hw : 32 ∉ w) : bodyC (parseV (comma w)).1 = w := by
  obtain ⟨h1, h2⟩ := parse_told h
  unfold bodyC
  rw [if_pos h1, h2, uncomma_comma w hw]
theorem itoa_nat {w : List UInt8} {m v : Nat} (h : numV w m = some v) : Lib.itoa (v : Int) = w := by rw [Lib.itoa_nonneg]; exact (numV_some h).1
theorem dec_nat {w : List UInt8} {m v : Nat} (h : numV w m = some v) : Lib.decDigits ((v : Int).toNat) = w := (numV_some h).1

theorem z4 : (0 : Int) < 10000 := by decide
theorem z18 : (0 : Int) < 1000000000000000000 := by decide
theorem takes_cons {c c' : Cm} {f : UInt8} {fs : List UInt8} {w : List UInt8} {ws : List (List UInt8)} (h : takesV c (f :: fs) (w :: ws) = some c') : ∃ c1, takeV c f w = some c1 ∧ takesV c1 fs ws = some c' := by
  rw [takesV] at h
  exact Option.bind_eq_some_iff.1 h
theorem takes_nil {c c' : Cm} (h : takesV c [] [] = some c') : c' = c := (Option.some.inj h).symm
theorem take_t {c c' : Cm} {w : List UInt8} (h : takeV c 116 w = some c') : ∃ v, numV w 4 = some v ∧ c' = { c with t := (v : Int) } := by
  have e : takeV c 116 w = (numV w 4).map (fun (v : Nat) => { c with t := (v : Int) }) := by simp [takeV]
  rw [e] at h
  obtain ⟨v, h1, h2⟩ := Option.map_eq_some_iff.1 h
  exact ⟨v, h1, h2.symm⟩
theorem take_p {c c' : Cm} {w : List UInt8} (h : takeV c 112 w = some c') : ∃ v, numV w 4 = some v ∧ c' = { c with p := (v : Int) } := by
  have e : takeV c 112 w = (numV w 4).map (fun (v : Nat) => { c with p := (v : Int) }) := by simp [takeV]
  rw [e] at h
  obtain ⟨v, h1, h2⟩ := Option.map_eq_some_iff.1 h
  exact ⟨v, h1, h2.symm⟩
theorem take_i {c c' : Cm} {w : List UInt8} (h : takeV c 105 w = some c') : ∃ v, numV w 4 = some v ∧ c' = { c with i := (v : Int) } := by
  have e : takeV c 105 w = (numV w 4).map (fun (v : Nat) => { c with i := (v : Int) }) := by simp [takeV]
  rw [e] at h
  obtain ⟨v, h1, h2⟩ := Option.map_eq_some_iff.1 h
  exact ⟨v, h1, h2.symm⟩
theorem take_n {c c' : Cm} {w : List UInt8} (h : takeV c 110 w = some c') : ∃ v, numV w 18 = some v ∧ c' = { c with n := (v : Int) } := by
  have e : takeV c 110 w = (numV w 18).map (fun (v : Nat) => { c with n := (v : Int) }) := by simp [takeV]
  rw [e] at h
  obtain ⟨v, h1, h2⟩ := Option.map_eq_some_iff.1 h
  exact ⟨v, h1, h2.symm⟩
theorem take_m {c c' : Cm} {w : List UInt8} (h : takeV c 109 w = some c') : ∃ v, numV w 18 = some v ∧ c' = { c with m := (v : Int) } := by
  have e : takeV c 109 w = (numV w 18).map (fun (v : Nat) => { c with m := (v : Int) }) := by simp [takeV]
  rw [e] at h
  obtain ⟨v, h1, h2⟩ := Option.map_eq_some_iff.1 h
  exact ⟨v, h1, h2.symm⟩
theorem take_b {c c' : Cm} {w : List UInt8} (h : takeV c 98 w = some c') : (parseV (comma w)).2 = 0 ∧ c' = { c with body := (parseV (comma w)).1 } := by
  have e : takeV c 98 w = (if (parseV (comma w)).2 = 0 then some { c with body := (parseV (comma w)).1 } else none) := by simp [takeV]
  rw [e] at h
  split at h
  · rename_i h1
    exact ⟨h1, (Option.some.inj h).symm⟩
  · cases h
theorem take_l {c c' : Cm} {w : List UInt8} (h : takeV c 108 w = some c') : ∃ v, numV w 4 = some v ∧ c' = { c with preds := c.preds ++ [(v : Int)] } := by
  have e : takeV c 108 w = (numV w 4).map (fun (v : Nat) => { c with preds := c.preds ++ [(v : Int)] }) := by simp [takeV]
  rw [e] at h
  obtain ⟨v, h1, h2⟩ := Option.map_eq_some_iff.1 h
  exact ⟨v, h1, h2.symm⟩
theorem takes_l : ∀ (ws : List (List UInt8)) (c c' : Cm), takesV c (List.replicate ws.length 108) ws = some c' → ∃ vs : List Nat, vs.length = ws.length ∧ vs.map Lib.decDigits = ws ∧ c' = { c with preds := c.preds ++ vs.map (fun (v : Nat) => (v : Int)) }
  | [], c, c', h => ⟨[], rfl, rfl, by rw [takes_nil h]; simp⟩
  | w :: r, c, c', h => by
    rw [List.length_cons, List.replicate_succ] at h
    obtain ⟨c1, h1, h2⟩ := takes_cons h
    obtain ⟨v, q, rfl⟩ := take_l h1
    obtain ⟨vs, e1, e2, rfl⟩ := takes_l r _ _ h2
    exact ⟨v :: vs, by simp [e1], by rw [List.map_cons, e2, (numV_some q).1], by simp⟩

/-- What a form says of the words. -/
structure Reads (k : Nat) (c : Cm) (ws : List (List UInt8)) : Prop where
  kind : c.k = (k : Int)
  args : argsC c = ws
  ok : okB c.body = true
  few : c.preds.length ≤ 16
  wide : 0 ≤ c.t ∧ c.t < 10000 ∧ 0 ≤ c.p ∧ c.p < 10000 ∧ 0 ≤ c.i ∧ c.i < 10000 ∧ 0 ≤ c.n ∧ c.n < 1000000000000000000 ∧ 0 ≤ c.m ∧ c.m < 1000000000000000000
theorem numV_wide {w : List UInt8} {m v : Nat} (h : numV w m = some v) : v < 10 ^ m := by
  obtain ⟨_, h2, h3, h4⟩ := numV_some h
  rw [h2]
  exact Nat.lt_of_lt_of_le (valL_lt w h4) (Nat.pow_le_pow_right (by decide) h3)
theorem num4 {w : List UInt8} {v : Nat} (h : numV w 4 = some v) : (0 : Int) ≤ (v : Int) ∧ (v : Int) < 10000 := by have := numV_wide h; omega
theorem num18 {w : List UInt8} {v : Nat} (h : numV w 18 = some v) : (0 : Int) ≤ (v : Int) ∧ (v : Int) < 1000000000000000000 := by have := numV_wide h; omega
theorem reads2 {a b d e : List UInt8} {c : Cm} (hw : ∀ w ∈ ([a, b, d, e] : List (List UInt8)), 32 ∉ w) (h : takesV (Cm.zero 2) [116, 112, 98, 110] [a, b, d, e] = some c) : Reads 2 c [a, b, d, e] := by
  obtain ⟨c0, g0, h⟩ := takes_cons h
  obtain ⟨v0, q0, rfl⟩ := take_t g0
  obtain ⟨c1, g1, h⟩ := takes_cons h
  obtain ⟨v1, q1, rfl⟩ := take_p g1
  obtain ⟨c2, g2, h⟩ := takes_cons h
  obtain ⟨q2, rfl⟩ := take_b g2
  obtain ⟨c3, g3, h⟩ := takes_cons h
  obtain ⟨v3, q3, rfl⟩ := take_n g3
  obtain rfl := takes_nil h
  have rt := (num4 q0)
  have rp := (num4 q1)
  have rn := (num18 q3)
  exact ⟨rfl, by
    show [Lib.itoa (v0 : Int), Lib.itoa (v1 : Int), bodyC (parseV (comma d)).1, Lib.decDigits ((v3 : Int).toNat)] = _
    rw [itoa_nat q0, itoa_nat q1, body_told q2 (hw d (by simp)), dec_nat q3], (parse_told q2).1, Nat.zero_le _, rt.1, rt.2, rp.1, rp.2, Int.le_refl 0, z4, rn.1, rn.2, Int.le_refl 0, z18⟩
theorem reads3 {a b d e g : List UInt8} {c : Cm} (hw : ∀ w ∈ ([a, b, d, e, g] : List (List UInt8)), 32 ∉ w) (h : takesV (Cm.zero 3) [116, 112, 98, 110, 109] [a, b, d, e, g] = some c) : Reads 3 c [a, b, d, e, g] := by
  obtain ⟨c0, g0, h⟩ := takes_cons h
  obtain ⟨v0, q0, rfl⟩ := take_t g0
  obtain ⟨c1, g1, h⟩ := takes_cons h
  obtain ⟨v1, q1, rfl⟩ := take_p g1
  obtain ⟨c2, g2, h⟩ := takes_cons h
  obtain ⟨q2, rfl⟩ := take_b g2
  obtain ⟨c3, g3, h⟩ := takes_cons h
  obtain ⟨v3, q3, rfl⟩ := take_n g3
  obtain ⟨c4, g4, h⟩ := takes_cons h
  obtain ⟨v4, q4, rfl⟩ := take_m g4
  obtain rfl := takes_nil h
  have rt := (num4 q0)
  have rp := (num4 q1)
  have rn := (num18 q3)
  have rm := (num18 q4)
  exact ⟨rfl, by
    show [Lib.itoa (v0 : Int), Lib.itoa (v1 : Int), bodyC (parseV (comma d)).1, Lib.decDigits ((v3 : Int).toNat), Lib.decDigits ((v4 : Int).toNat)] = _
    rw [itoa_nat q0, itoa_nat q1, body_told q2 (hw d (by simp)), dec_nat q3, dec_nat q4], (parse_told q2).1, Nat.zero_le _, rt.1, rt.2, rp.1, rp.2, Int.le_refl 0, z4, rn.1, rn.2, rm.1, rm.2⟩
theorem reads4 {a : List UInt8} {c : Cm} (h : takesV (Cm.zero 4) [105] [a] = some c) : Reads 4 c [a] := by
  obtain ⟨c0, g0, h⟩ := takes_cons h
  obtain ⟨v0, q0, rfl⟩ := take_i g0
  obtain rfl := takes_nil h
  have ri := (num4 q0)
  exact ⟨rfl, by
    show [Lib.itoa (v0 : Int)] = _
    rw [itoa_nat q0], rfl, Nat.zero_le _, Int.le_refl 0, z4, Int.le_refl 0, z4, ri.1, ri.2, Int.le_refl 0, z18, Int.le_refl 0, z18⟩
theorem reads5 {a b : List UInt8} {c : Cm} (h : takesV (Cm.zero 5) [116, 110] [a, b] = some c) : Reads 5 c [a, b] := by
  obtain ⟨c0, g0, h⟩ := takes_cons h
  obtain ⟨v0, q0, rfl⟩ := take_t g0
  obtain ⟨c1, g1, h⟩ := takes_cons h
  obtain ⟨v1, q1, rfl⟩ := take_n g1
  obtain rfl := takes_nil h
  have rt := (num4 q0)
  have rn := (num18 q1)
  exact ⟨rfl, by
    show [Lib.itoa (v0 : Int), Lib.decDigits ((v1 : Int).toNat)] = _
    rw [itoa_nat q0, dec_nat q1], rfl, Nat.zero_le _, rt.1, rt.2, Int.le_refl 0, z4, Int.le_refl 0, z4, rn.1, rn.2, Int.le_refl 0, z18⟩
theorem reads6 {a b : List UInt8} {c : Cm} (h : takesV (Cm.zero 6) [109, 110] [a, b] = some c) : Reads 6 c [a, b] := by
  obtain ⟨c0, g0, h⟩ := takes_cons h
  obtain ⟨v0, q0, rfl⟩ := take_m g0
  obtain ⟨c1, g1, h⟩ := takes_cons h
  obtain ⟨v1, q1, rfl⟩ := take_n g1
  obtain rfl := takes_nil h
  have rm := (num18 q0)
  have rn := (num18 q1)
  exact ⟨rfl, by
    show [Lib.decDigits ((v0 : Int).toNat), Lib.decDigits ((v1 : Int).toNat)] = _
    rw [dec_nat q0, dec_nat q1], rfl, Nat.zero_le _, Int.le_refl 0, z4, Int.le_refl 0, z4, Int.le_refl 0, z4, rn.1, rn.2, rm.1, rm.2⟩
theorem reads7 {a : List UInt8} {c : Cm} (h : takesV (Cm.zero 7) [110] [a] = some c) : Reads 7 c [a] := by
  obtain ⟨c0, g0, h⟩ := takes_cons h
  obtain ⟨v0, q0, rfl⟩ := take_n g0
  obtain rfl := takes_nil h
  have rn := (num18 q0)
  exact ⟨rfl, by
    show [Lib.decDigits ((v0 : Int).toNat)] = _
    rw [dec_nat q0], rfl, Nat.zero_le _, Int.le_refl 0, z4, Int.le_refl 0, z4, Int.le_refl 0, z4, rn.1, rn.2, Int.le_refl 0, z18⟩
theorem reads8 {a b : List UInt8} {c : Cm} (h : takesV (Cm.zero 8) [110, 109] [a, b] = some c) : Reads 8 c [a, b] := by
  obtain ⟨c0, g0, h⟩ := takes_cons h
  obtain ⟨v0, q0, rfl⟩ := take_n g0
  obtain ⟨c1, g1, h⟩ := takes_cons h
  obtain ⟨v1, q1, rfl⟩ := take_m g1
  obtain rfl := takes_nil h
  have rn := (num18 q0)
  have rm := (num18 q1)
  exact ⟨rfl, by
    show [Lib.decDigits ((v0 : Int).toNat), Lib.decDigits ((v1 : Int).toNat)] = _
    rw [dec_nat q0, dec_nat q1], rfl, Nat.zero_le _, Int.le_refl 0, z4, Int.le_refl 0, z4, Int.le_refl 0, z4, rn.1, rn.2, rm.1, rm.2⟩
theorem reads9 {a : List UInt8} {c : Cm} (h : takesV (Cm.zero 9) [105] [a] = some c) : Reads 9 c [a] := by
  obtain ⟨c0, g0, h⟩ := takes_cons h
  obtain ⟨v0, q0, rfl⟩ := take_i g0
  obtain rfl := takes_nil h
  have ri := (num4 q0)
  exact ⟨rfl, by
    show [Lib.itoa (v0 : Int)] = _
    rw [itoa_nat q0], rfl, Nat.zero_le _, Int.le_refl 0, z4, Int.le_refl 0, z4, ri.1, ri.2, Int.le_refl 0, z18, Int.le_refl 0, z18⟩
theorem reads10 {u : List UInt8} {c : Cm} (h : takesV (Cm.zero 10) [] [] = some c) : Reads 10 c [] := by
  obtain rfl := takes_nil h
  exact ⟨rfl, rfl, rfl, Nat.zero_le _, Int.le_refl 0, z4, Int.le_refl 0, z4, Int.le_refl 0, z4, Int.le_refl 0, z18, Int.le_refl 0, z18⟩
theorem reads11 {a : List UInt8} {c : Cm} (h : takesV (Cm.zero 11) [110] [a] = some c) : Reads 11 c [a] := by
  obtain ⟨c0, g0, h⟩ := takes_cons h
  obtain ⟨v0, q0, rfl⟩ := take_n g0
  obtain rfl := takes_nil h
  have rn := (num18 q0)
  exact ⟨rfl, by
    show [Lib.decDigits ((v0 : Int).toNat)] = _
    rw [dec_nat q0], rfl, Nat.zero_le _, Int.le_refl 0, z4, Int.le_refl 0, z4, Int.le_refl 0, z4, rn.1, rn.2, Int.le_refl 0, z18⟩
theorem reads12 {u : List UInt8} {c : Cm} (h : takesV (Cm.zero 12) [] [] = some c) : Reads 12 c [] := by
  obtain rfl := takes_nil h
  exact ⟨rfl, rfl, rfl, Nat.zero_le _, Int.le_refl 0, z4, Int.le_refl 0, z4, Int.le_refl 0, z4, Int.le_refl 0, z18, Int.le_refl 0, z18⟩
theorem reads13 {u : List UInt8} {c : Cm} (h : takesV (Cm.zero 13) [] [] = some c) : Reads 13 c [] := by
  obtain rfl := takes_nil h
  exact ⟨rfl, rfl, rfl, Nat.zero_le _, Int.le_refl 0, z4, Int.le_refl 0, z4, Int.le_refl 0, z4, Int.le_refl 0, z18, Int.le_refl 0, z18⟩
theorem reads14 {u : List UInt8} {c : Cm} (h : takesV (Cm.zero 14) [] [] = some c) : Reads 14 c [] := by
  obtain rfl := takes_nil h
  exact ⟨rfl, rfl, rfl, Nat.zero_le _, Int.le_refl 0, z4, Int.le_refl 0, z4, Int.le_refl 0, z4, Int.le_refl 0, z18, Int.le_refl 0, z18⟩
theorem reads1 {a b d : List UInt8} {r : List (List UInt8)} {c : Cm} (hw : ∀ w ∈ a :: b :: d :: r, 32 ∉ w) (hr : r.length ≤ 16) (h : takesV (Cm.zero 1) ([116, 112, 98] ++ List.replicate r.length 108) (a :: b :: d :: r) = some c) : Reads 1 c (a :: b :: d :: r) := by
  simp only [List.cons_append, List.nil_append] at h
  obtain ⟨c0, g0, h⟩ := takes_cons h
  obtain ⟨v0, q0, rfl⟩ := take_t g0
  obtain ⟨c1, g1, h⟩ := takes_cons h
  obtain ⟨v1, q1, rfl⟩ := take_p g1
  obtain ⟨c2, g2, h⟩ := takes_cons h
  obtain ⟨q2, rfl⟩ := take_b g2
  obtain ⟨vs, e1, e2, rfl⟩ := takes_l r _ _ h
  have hp : ((vs.map (fun (v : Nat) => (v : Int))).take 17).map Lib.itoa = r := by
    rw [List.take_of_length_le (by rw [List.length_map]; omega), List.map_map, ← e2]
    exact List.map_congr_left (fun v _ => Lib.itoa_nonneg v)
  have r0 := num4 q0
  have r1 := num4 q1
  refine ⟨rfl, ?_, (parse_told q2).1, ?_, r0.1, r0.2, r1.1, r1.2, Int.le_refl 0, z4, Int.le_refl 0, z18, Int.le_refl 0, z18⟩
  · show Lib.itoa (v0 : Int) :: Lib.itoa (v1 : Int) :: bodyC (parseV (comma d)).1 :: (((vs.map (fun (v : Nat) => (v : Int))).take 17).map Lib.itoa ++ []) = _
    rw [List.append_nil, itoa_nat q0, itoa_nat q1, body_told q2 (hw d (by simp)), hp]
  · show ([] ++ vs.map (fun (v : Nat) => (v : Int))).length ≤ 16
    rw [List.nil_append, List.length_map, e1]; exact hr

theorem takes_reads (k : Nat) (h1 : 1 ≤ k) (h14 : k ≤ 14) (ws : List (List UInt8)) (c : Cm) (hw : ∀ w ∈ ws, 32 ∉ w) (hl : ws.length = (grown k ws.length).length) (h : takesV (Cm.zero k) (grown k ws.length) ws = some c) : Reads k c ws := by
  have hk : k = 1 ∨ k = 2 ∨ k = 3 ∨ k = 4 ∨ k = 5 ∨ k = 6 ∨ k = 7 ∨ k = 8 ∨ k = 9 ∨ k = 10 ∨ k = 11 ∨ k = 12 ∨ k = 13 ∨ k = 14 := by omega
  rcases hk with rfl | rfl | rfl | rfl | rfl | rfl | rfl | rfl | rfl | rfl | rfl | rfl | rfl | rfl
  · unfold grown at hl h
    rw [if_pos rfl] at hl h
    match ws, hw, hl, h with
    | [], _, hl, _ => simp at hl
    | [a], _, hl, _ => simp at hl
    | [a, b], _, hl, _ => simp at hl
    | a :: b :: d :: r, hw, hl, h =>
      simp only [List.length_cons, Nat.add_sub_cancel, List.length_append, List.length_replicate, List.length_nil] at hl h
      have hr : r.length ≤ 16 := by omega
      rw [show min (r.length + 1 + 1 + 1 - 3) 16 = r.length by omega] at h
      exact reads1 hw hr h
  · match ws, hw, hl, h with
    | [], _, hl, _ => exact absurd (show 0 = 4 from hl) (by decide)
    | [a], _, hl, _ => exact absurd (show 1 = 4 from hl) (by decide)
    | [a, b], _, hl, _ => exact absurd (show 2 = 4 from hl) (by decide)
    | [a, b, d], _, hl, _ => exact absurd (show 3 = 4 from hl) (by decide)
    | [a, b, d, e], hw, _, h => exact reads2 hw h
    | a :: b :: d :: e :: x :: r, _, hl, _ => exact absurd (show r.length + 5 = 4 from hl) (by omega)
  · match ws, hw, hl, h with
    | [], _, hl, _ => exact absurd (show 0 = 5 from hl) (by decide)
    | [a], _, hl, _ => exact absurd (show 1 = 5 from hl) (by decide)
    | [a, b], _, hl, _ => exact absurd (show 2 = 5 from hl) (by decide)
    | [a, b, d], _, hl, _ => exact absurd (show 3 = 5 from hl) (by decide)
    | [a, b, d, e], _, hl, _ => exact absurd (show 4 = 5 from hl) (by decide)
    | [a, b, d, e, g], hw, _, h => exact reads3 hw h
    | a :: b :: d :: e :: g :: x :: r, _, hl, _ => exact absurd (show r.length + 6 = 5 from hl) (by omega)
  · match ws, hw, hl, h with
    | [], _, hl, _ => exact absurd (show 0 = 1 from hl) (by decide)
    | [a], hw, _, h => exact reads4 h
    | a :: x :: r, _, hl, _ => exact absurd (show r.length + 2 = 1 from hl) (by omega)
  · match ws, hw, hl, h with
    | [], _, hl, _ => exact absurd (show 0 = 2 from hl) (by decide)
    | [a], _, hl, _ => exact absurd (show 1 = 2 from hl) (by decide)
    | [a, b], hw, _, h => exact reads5 h
    | a :: b :: x :: r, _, hl, _ => exact absurd (show r.length + 3 = 2 from hl) (by omega)
  · match ws, hw, hl, h with
    | [], _, hl, _ => exact absurd (show 0 = 2 from hl) (by decide)
    | [a], _, hl, _ => exact absurd (show 1 = 2 from hl) (by decide)
    | [a, b], hw, _, h => exact reads6 h
    | a :: b :: x :: r, _, hl, _ => exact absurd (show r.length + 3 = 2 from hl) (by omega)
  · match ws, hw, hl, h with
    | [], _, hl, _ => exact absurd (show 0 = 1 from hl) (by decide)
    | [a], hw, _, h => exact reads7 h
    | a :: x :: r, _, hl, _ => exact absurd (show r.length + 2 = 1 from hl) (by omega)
  · match ws, hw, hl, h with
    | [], _, hl, _ => exact absurd (show 0 = 2 from hl) (by decide)
    | [a], _, hl, _ => exact absurd (show 1 = 2 from hl) (by decide)
    | [a, b], hw, _, h => exact reads8 h
    | a :: b :: x :: r, _, hl, _ => exact absurd (show r.length + 3 = 2 from hl) (by omega)
  · match ws, hw, hl, h with
    | [], _, hl, _ => exact absurd (show 0 = 1 from hl) (by decide)
    | [a], hw, _, h => exact reads9 h
    | a :: x :: r, _, hl, _ => exact absurd (show r.length + 2 = 1 from hl) (by omega)
  · match ws, hw, hl, h with
    | [], hw, _, h => exact reads10 (u := []) h
    | x :: r, _, hl, _ => exact absurd (show r.length + 1 = 0 from hl) (by omega)
  · match ws, hw, hl, h with
    | [], _, hl, _ => exact absurd (show 0 = 1 from hl) (by decide)
    | [a], hw, _, h => exact reads11 h
    | a :: x :: r, _, hl, _ => exact absurd (show r.length + 2 = 1 from hl) (by omega)
  · match ws, hw, hl, h with
    | [], hw, _, h => exact reads12 (u := []) h
    | x :: r, _, hl, _ => exact absurd (show r.length + 1 = 0 from hl) (by omega)
  · match ws, hw, hl, h with
    | [], hw, _, h => exact reads13 (u := []) h
    | x :: r, _, hl, _ => exact absurd (show r.length + 1 = 0 from hl) (by omega)
  · match ws, hw, hl, h with
    | [], hw, _, h => exact reads14 (u := []) h
    | x :: r, _, hl, _ => exact absurd (show r.length + 1 = 0 from hl) (by omega)

/-- What is read is told again. -/
theorem cmd_told {s : List UInt8} {c : Cm} (h : cmdV s = (c, 0)) : lineV c = s ∧ (1 ≤ c.k ∧ c.k ≤ 14) ∧ okB c.body = true ∧ c.preds.length ≤ 16 ∧
    (0 ≤ c.t ∧ c.t < 10000 ∧ 0 ≤ c.p ∧ c.p < 10000 ∧ 0 ≤ c.i ∧ c.i < 10000 ∧ 0 ≤ c.n ∧ c.n < 1000000000000000000 ∧ 0 ≤ c.m ∧ c.m < 1000000000000000000) := by
  rw [← refV_eq] at h
  unfold refV at h
  split at h
  · cases h
  · cases hq : cmNames.findIdx? (fun x => decide (x = (spl 32 s).head?.getD [])) with
    | none => rw [hq] at h; cases h
    | some j =>
      rw [hq] at h
      simp only [] at h
      have hjj := List.findIdx?_eq_some_iff_getElem.1 hq
      have hj : j < 14 := hjj.1
      have hname := of_decide_eq_true hjj.2.1
      split at h
      · rename_i hl
        cases ht : takesV (Cm.zero ((j : Int) + 1)) (grown (j + 1) (spl 32 s).tail.length) (spl 32 s).tail with
        | none => rw [ht] at h; cases h
        | some c' =>
          rw [ht] at h
          simp only [Prod.mk.injEq, and_true] at h
          subst h
          have hw : ∀ w ∈ (spl 32 s).tail, 32 ∉ w := fun w hm => (spl_mem 32 s w (List.mem_of_mem_tail hm)).2
          have hR := takes_reads (j + 1) (by omega) (by omega) _ c' hw hl (by rw [show (((j + 1 : Nat) : Int)) = (j : Int) + 1 by omega]; exact ht)
          obtain ⟨e1, e2, e3, e4, e5⟩ := hR
          refine ⟨?_, by omega, e3, e4, e5⟩
          have hj1 : (c'.k - 1).toNat = j := by omega
          unfold lineV wordOf
          rw [e2, hj1, List.getElem?_eq_getElem hjj.1, Option.getD_some, hname]
          have hne := spl_ne 32 s
          have hjoin := join_spl 32 s
          cases hs : spl 32 s with
          | nil => exact absurd hs hne
          | cons x r => rw [hs] at hjoin; exact hjoin
      · cases h
end Go.Proofs.YtgiimmiandhkhaaDoor
