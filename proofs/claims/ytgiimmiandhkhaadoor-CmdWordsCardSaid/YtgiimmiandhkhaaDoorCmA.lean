/- The commands: what a line says (plain): the program's way and the document's way are one. -/
import Derived.Test.YtgiimmiandhkhaaDoorProg
import Derived.Test.YtgiimmiandhkhaaDoorBoJ
namespace Go.Proofs.YtgiimmiandhkhaaDoor
open Go.RowKit
set_option linter.unusedSimpArgs false
set_option linter.unusedVariables false

/-- A command. -/
structure Cm where
  k : Int
  t : Int
  p : Int
  i : Int
  n : Int
  m : Int
  body : List BOp
  preds : List Int
deriving DecidableEq
def Cm.zero (k : Int) : Cm := ⟨k, 0, 0, 0, 0, 0, [], []⟩

def cmNames : List (List UInt8) := [
  [115, 117, 98, 109, 105, 116], [97, 102, 116, 101, 114], [101, 118, 101, 114, 121], [99, 97, 110, 99, 101, 108], [97, 100, 118, 97, 110, 99, 101], [112, 105, 99, 107], [114, 111, 117, 110, 100],
  [114, 101, 115, 116], [115, 116, 97, 116, 117, 115], [115, 116, 97, 116, 101], [99, 108, 111, 115, 101], [115, 104, 117, 116, 100, 111, 119, 110], [101, 118, 101, 110, 116, 115], [114, 104, 111]]
/-- What stands where. -/
def cmForm (k : Nat) : List UInt8 :=
  match k with
  | 1 => [116, 112, 98, 108] | 2 => [116, 112, 98, 110] | 3 => [116, 112, 98, 110, 109] | 4 => [105] | 5 => [116, 110] | 6 => [109, 110] | 7 => [110] | 8 => [110, 109] | 9 => [105] | 11 => [110] | _ => []
def signOf (b : UInt8) : Int := if b = 116 then 1 else if b = 112 then 2 else if b = 105 then 3 else if b = 110 then 4 else if b = 109 then 5 else if b = 98 then 6 else if b = 108 then 7 else 0
def placesL : List ((Int × Int) × Int) := [
  ((1, 0), 1), ((1, 1), 2), ((1, 2), 6), ((1, 3), 7),
  ((2, 0), 1), ((2, 1), 2), ((2, 2), 6), ((2, 3), 4),
  ((3, 0), 1), ((3, 1), 2), ((3, 2), 6), ((3, 3), 4), ((3, 4), 5),
  ((4, 0), 3), ((9, 0), 3), ((5, 0), 1), ((5, 1), 4), ((6, 0), 5), ((6, 1), 4),
  ((7, 0), 4), ((8, 0), 4), ((8, 1), 5), ((11, 0), 4)]
def placeOf (k i : Int) : Int := (mget placesL (k, i)).getD 0

def comma (w : List UInt8) : List UInt8 := w.map (fun b => if b = 44 then 32 else b)
/-- A word is put where it belongs. -/
def putV (c : Cm) (what : Int) (w : List UInt8) : Option Cm :=
  if what = 6 then (if (parseV (comma w)).2 = 0 ∧ 32 ∉ w then some { c with body := (parseV (comma w)).1 } else none)
  else if what = 4 then (numV w 18).map (fun (v : Nat) => { c with n := (v : Int) })
  else if what = 5 then (numV w 18).map (fun (v : Nat) => { c with m := (v : Int) })
  else if what = 1 then (numV w 4).map (fun (v : Nat) => { c with t := (v : Int) })
  else if what = 2 then (numV w 4).map (fun (v : Nat) => { c with p := (v : Int) })
  else if what = 3 then (numV w 4).map (fun (v : Nat) => { c with i := (v : Int) })
  else if what = 7 then (numV w 4).bind (fun (v : Nat) => if c.preds.length + 1 ≤ 16 then some { c with preds := c.preds ++ [(v : Int)] } else none)
  else none
def fillV (k : Int) : Int → Cm → List (List UInt8) → Option Cm
  | i, c, [] => if placeOf k i = 0 ∨ placeOf k i = 7 then some c else none
  | i, c, w :: r => (putV c (placeOf k i) w).bind (fun c' => fillV k (if placeOf k i = 7 then i else i + 1) c' r)
def kindOf (w : List UInt8) : Int := match cmNames.findIdx? (fun x => decide (x = w)) with | some j => (j : Int) + 1 | none => 0
/-- The command of a line, and the number of the error. -/
def cmdV (s : List UInt8) : Cm × Int :=
  if 1000 < s.length then (Cm.zero 0, 2)
  else if kindOf ((spl 32 s).head?.getD []) = 0 then (Cm.zero 0, 3)
  else match fillV (kindOf ((spl 32 s).head?.getD [])) 0 (Cm.zero (kindOf ((spl 32 s).head?.getD []))) (spl 32 s).tail with
    | none => (Cm.zero 0, 3)
    | some c => (c, 0)

/-! ### the document's way -/
def takeV (c : Cm) (sign : UInt8) (w : List UInt8) : Option Cm :=
  if sign = 98 then (if (parseV (comma w)).2 = 0 then some { c with body := (parseV (comma w)).1 } else none)
  else if sign = 110 then (numV w 18).map (fun (v : Nat) => { c with n := (v : Int) })
  else if sign = 109 then (numV w 18).map (fun (v : Nat) => { c with m := (v : Int) })
  else if sign = 116 then (numV w 4).map (fun (v : Nat) => { c with t := (v : Int) })
  else if sign = 112 then (numV w 4).map (fun (v : Nat) => { c with p := (v : Int) })
  else if sign = 105 then (numV w 4).map (fun (v : Nat) => { c with i := (v : Int) })
  else if sign = 108 then (numV w 4).map (fun (v : Nat) => { c with preds := c.preds ++ [(v : Int)] })
  else (numV w 4).map (fun _ => c)
def takesV : Cm → List UInt8 → List (List UInt8) → Option Cm
  | c, f :: fs, w :: ws => (takeV c f w).bind (fun c' => takesV c' fs ws)
  | c, _, _ => some c
/-- The form, grown to so many words. -/
def grown (k : Nat) (n : Nat) : List UInt8 := if k = 1 then [116, 112, 98] ++ List.replicate (min (n - 3) 16) 108 else cmForm k
def refV (s : List UInt8) : Cm × Int :=
  if 1000 < s.length then (Cm.zero 0, 2)
  else match cmNames.findIdx? (fun x => decide (x = (spl 32 s).head?.getD [])) with
    | none => (Cm.zero 0, 3)
    | some j =>
      if (spl 32 s).tail.length = (grown (j + 1) (spl 32 s).tail.length).length then
        match takesV (Cm.zero ((j : Int) + 1)) (grown (j + 1) (spl 32 s).tail.length) (spl 32 s).tail with
        | none => (Cm.zero 0, 3)
        | some c => (c, 0)
      else (Cm.zero 0, 3)

theorem put_take (c : Cm) (f : UInt8) (w : List UInt8) (hf : f = 116 ∨ f = 112 ∨ f = 98 ∨ f = 105 ∨ f = 110 ∨ f = 109) (hw : 32 ∉ w) : putV c (signOf f) w = takeV c f w := by
  rcases hf with rfl | rfl | rfl | rfl | rfl | rfl
  · rfl
  · rfl
  · show (if (parseV (comma w)).2 = 0 ∧ 32 ∉ w then _ else _) = (if (parseV (comma w)).2 = 0 then _ else _)
    by_cases h : (parseV (comma w)).2 = 0
    · rw [if_pos ⟨h, hw⟩, if_pos h]
    · rw [if_neg (fun hh => h hh.1), if_neg h]
  · rfl
  · rfl
  · rfl
theorem put_none (c : Cm) (w : List UInt8) : putV c 0 w = none := rfl

/-- A fixed form. -/
theorem fill_form (k : Int) (F : List UInt8) (hF : ∀ (j : Nat), placeOf k j = ((F[j]?).map signOf).getD 0) (hs : ∀ f ∈ F, f = 116 ∨ f = 112 ∨ f = 98 ∨ f = 105 ∨ f = 110 ∨ f = 109) :
    ∀ (ws : List (List UInt8)) (j : Nat) (c : Cm), j ≤ F.length → (∀ w ∈ ws, 32 ∉ w) → fillV k (j : Int) c ws = if ws.length = (F.drop j).length then takesV c (F.drop j) ws else none
  | [], j, c, hj, _ => by
    rw [fillV, hF j]
    by_cases h : j = F.length
    · subst h
      rw [List.getElem?_eq_none (Nat.le_refl _), List.drop_length]
      rfl
    · have hlt : j < F.length := by omega
      rw [List.getElem?_eq_getElem hlt]
      have hm := hs F[j] (List.getElem_mem hlt)
      have : ¬ (signOf F[j] = 0 ∨ signOf F[j] = 7) := by rcases hm with h | h | h | h | h | h <;> rw [h] <;> decide
      simp only [Option.map_some, Option.getD_some]
      rw [if_neg this, if_neg (by rw [List.length_drop, List.length_nil]; omega)]
  | w :: r, j, c, hj, hw => by
    rw [fillV, hF j]
    by_cases h : j = F.length
    · subst h
      rw [List.getElem?_eq_none (Nat.le_refl _), List.drop_length, if_neg (by simp)]
      rfl
    · have hlt : j < F.length := by omega
      have hm := hs F[j] (List.getElem_mem hlt)
      have h7 : ¬ signOf F[j] = 7 := by rcases hm with h | h | h | h | h | h <;> rw [h] <;> decide
      rw [List.getElem?_eq_getElem hlt]
      simp only [Option.map_some, Option.getD_some]
      rw [if_neg h7, put_take c F[j] w hm (hw w (by simp)), List.drop_eq_getElem_cons hlt]
      have ih := fun c' => fill_form k F hF hs r (j + 1) c' (by omega) (fun x hx => hw x (by simp [hx]))
      rw [show ((j : Int) + 1) = ((j + 1 : Nat) : Int) by omega]
      cases ht : takeV c F[j] w with
      | none =>
        rw [takesV, ht]
        simp
      | some c' =>
        rw [takesV, ht]
        simp only [Option.bind_some]
        rw [ih c']
        simp only [List.length_cons, Nat.add_right_cancel_iff]
/-- The preds. -/
theorem fill_preds : ∀ (ws : List (List UInt8)) (c : Cm), fillV 1 3 c ws = if ws.length + c.preds.length ≤ 16 ∨ ws = [] then takesV c (List.replicate ws.length 108) ws else none
  | [], c => by
    rw [if_pos (.inr rfl)]
    rfl
  | w :: r, c => by
    rw [fillV]
    show (putV c 7 w).bind (fun c' => fillV 1 3 c' r) = _
    have e1 : putV c 7 w = (numV w 4).bind (fun (v : Nat) => if c.preds.length + 1 ≤ 16 then some { c with preds := c.preds ++ [(v : Int)] } else none) := rfl
    have e2 : takeV c 108 w = (numV w 4).map (fun (v : Nat) => { c with preds := c.preds ++ [(v : Int)] }) := by simp [takeV]
    rw [e1, List.length_cons, List.replicate_succ, takesV, e2]
    cases numV w 4 with
    | none => simp
    | some v =>
      simp only [Option.bind_some, Option.map_some]
      have hne : ¬ (w :: r = []) := by simp
      by_cases h1 : c.preds.length + 1 ≤ 16
      · rw [if_pos h1, Option.bind_some, fill_preds r]
        by_cases h : r.length + 1 + c.preds.length ≤ 16
        · rw [if_pos (show _ ∨ r = [] from .inl (by simp; omega)), if_pos (show _ ∨ w :: r = [] from .inl h)]
        · have hr : ¬ r = [] := fun e => h (by rw [e]; simp; omega)
          rw [if_neg (show ¬ (_ ∨ r = []) from fun e => e.elim (fun e => by simp at e; omega) hr), if_neg (show ¬ (_ ∨ w :: r = []) from fun e => e.elim h hne)]
      · rw [if_neg h1, if_neg (show ¬ (_ ∨ w :: r = []) from fun e => e.elim (fun e => by omega) hne)]; rfl
theorem place_form (k : Nat) (h1 : 1 ≤ k) (h14 : k ≤ 14) (hk : k ≠ 1) : ∀ (j : Nat), placeOf (k : Int) j = (((cmForm k)[j]?).map signOf).getD 0 := by
  have hbig : ∀ (k' : Nat) (j : Nat), 5 ≤ j → placeOf (k' : Int) j = 0 := by
    intro k' j hj
    unfold placeOf
    rw [mget_none.2]
    · rfl
    · intro p hp he
      have : p.1.2 ≤ 4 := by
        have : ∀ p ∈ placesL, p.1.2 ≤ 4 := by decide
        exact this p hp
      rw [he] at this
      simp at this
      omega
  intro j
  by_cases hj : 5 ≤ j
  · rw [hbig k j hj]
    have : (cmForm k).length ≤ 5 := by unfold cmForm; split <;> decide
    rw [List.getElem?_eq_none (by omega)]; rfl
  · have hk' : k = 2 ∨ k = 3 ∨ k = 4 ∨ k = 5 ∨ k = 6 ∨ k = 7 ∨ k = 8 ∨ k = 9 ∨ k = 10 ∨ k = 11 ∨ k = 12 ∨ k = 13 ∨ k = 14 := by omega
    have hj' : j = 0 ∨ j = 1 ∨ j = 2 ∨ j = 3 ∨ j = 4 := by omega
    rcases hk' with rfl | rfl | rfl | rfl | rfl | rfl | rfl | rfl | rfl | rfl | rfl | rfl | rfl <;> rcases hj' with rfl | rfl | rfl | rfl | rfl <;> decide

theorem fill_eq (k : Nat) (h1 : 1 ≤ k) (h14 : k ≤ 14) (ws : List (List UInt8)) (hw : ∀ w ∈ ws, 32 ∉ w) :
    fillV (k : Int) 0 (Cm.zero k) ws = if ws.length = (grown k ws.length).length then takesV (Cm.zero k) (grown k ws.length) ws else none := by
  by_cases hk : k = 1
  · subst hk
    unfold grown
    rw [if_pos rfl]
    match ws, hw with
    | [], _ => rfl
    | [a], _ => simp only [List.length_cons, List.length_nil]; rw [fillV]; show (putV _ 1 a).bind _ = _; cases putV (Cm.zero ((1 : Nat) : Int)) 1 a <;> rfl
    | [a, b], _ =>
      simp only [List.length_cons, List.length_nil]
      rw [fillV]
      show (putV _ 1 a).bind _ = _
      cases putV (Cm.zero ((1 : Nat) : Int)) 1 a with
      | none => rfl
      | some c1 =>
        rw [Option.bind_some, fillV]
        show (putV _ 2 b).bind _ = _
        cases putV c1 2 b <;> rfl
    | a :: b :: d :: r, hw =>
      have ha := put_take (Cm.zero ((1 : Nat) : Int)) 116 a (by simp) (hw a (by simp))
      have hb := fun c => put_take c 112 b (by simp) (hw b (by simp))
      have hd := fun c => put_take c 98 d (by simp) (hw d (by simp))
      rw [fillV]
      show (putV _ (signOf 116) a).bind (fun c' => fillV 1 1 c' (b :: d :: r)) = _
      rw [ha]
      simp only [List.length_cons, List.cons_append, List.nil_append, List.length_replicate, takesV, Nat.add_sub_cancel]
      cases h1' : takeV (Cm.zero ((1 : Nat) : Int)) 116 a with
      | none => simp
      | some c1 =>
        rw [Option.bind_some, Option.bind_some, fillV]
        show (putV _ (signOf 112) b).bind (fun c' => fillV 1 2 c' (d :: r)) = _
        rw [hb]
        cases h2' : takeV c1 112 b with
        | none => simp
        | some c2 =>
          rw [Option.bind_some, Option.bind_some, fillV]
          show (putV _ (signOf 98) d).bind (fun c' => fillV 1 3 c' r) = _
          rw [hd]
          cases h3' : takeV c2 98 d with
          | none => simp
          | some c3 =>
            have hp : c3.preds = [] := by
              have q1 : c1.preds = [] := by
                have e : takeV (Cm.zero ((1 : Nat) : Int)) 116 a = (numV a 4).map (fun (v : Nat) => { Cm.zero ((1 : Nat) : Int) with t := (v : Int) }) := by simp [takeV]
                rw [e] at h1'
                cases hn : numV a 4 with
                | none => rw [hn] at h1'; cases h1'
                | some v => rw [hn] at h1'; simp only [Option.map_some, Option.some.injEq] at h1'; rw [← h1']; rfl
              have q2 : c2.preds = [] := by
                have e : takeV c1 112 b = (numV b 4).map (fun (v : Nat) => { c1 with p := (v : Int) }) := by simp [takeV]
                rw [e] at h2'
                cases hn : numV b 4 with
                | none => rw [hn] at h2'; cases h2'
                | some v => rw [hn] at h2'; simp only [Option.map_some, Option.some.injEq] at h2'; rw [← h2']; exact q1
              have e : takeV c2 98 d = (if (parseV (comma d)).2 = 0 then some { c2 with body := (parseV (comma d)).1 } else none) := rfl
              rw [e] at h3'
              split at h3'
              · simp only [Option.some.injEq] at h3'; rw [← h3']; exact q2
              · cases h3'
            rw [Option.bind_some, Option.bind_some, fill_preds, hp]
            simp only [List.length_nil, Nat.add_zero]
            by_cases h : r.length ≤ 16
            · rw [if_pos (.inl h), if_pos (by omega), show min (r.length + 1 + 1 + 1 - 3) 16 = r.length by omega]
            · rw [if_neg (show ¬ (r.length ≤ 16 ∨ r = []) from fun e => e.elim h (fun e => h (by rw [e]; exact Nat.zero_le _))), if_neg (by omega)]
  · have := fill_form (k : Int) (cmForm k) (place_form k h1 h14 hk) (by
      have hk' : k = 2 ∨ k = 3 ∨ k = 4 ∨ k = 5 ∨ k = 6 ∨ k = 7 ∨ k = 8 ∨ k = 9 ∨ k = 10 ∨ k = 11 ∨ k = 12 ∨ k = 13 ∨ k = 14 := by omega
      rcases hk' with rfl | rfl | rfl | rfl | rfl | rfl | rfl | rfl | rfl | rfl | rfl | rfl | rfl <;> decide) ws 0 (Cm.zero k) (Nat.zero_le _) hw
    unfold grown
    rw [if_neg hk]
    rw [List.drop_zero] at this
    exact this
/-- The two commands of a line are one. -/
theorem refV_eq (s : List UInt8) : refV s = cmdV s := by
  unfold refV cmdV kindOf
  split
  · rfl
  · cases hq : cmNames.findIdx? (fun x => decide (x = (spl 32 s).head?.getD [])) with
    | none => rfl
    | some j =>
      have hj : j < 14 := by
        have := (List.findIdx?_eq_some_iff_getElem.1 hq).1
        exact this
      simp only []
      rw [if_neg (show ¬ ((j : Int) + 1 = 0) by omega)]
      have hw : ∀ w ∈ (spl 32 s).tail, 32 ∉ w := fun w hm => (spl_mem 32 s w (List.mem_of_mem_tail hm)).2
      have := fill_eq (j + 1) (by omega) (by omega) (spl 32 s).tail hw
      rw [show (((j + 1 : Nat) : Int)) = (j : Int) + 1 by omega] at this
      rw [this]
      by_cases hl : (spl 32 s).tail.length = (grown (j + 1) (spl 32 s).tail.length).length
      · rw [if_pos hl, if_pos hl]
      · rw [if_neg hl, if_neg hl]
end Go.Proofs.YtgiimmiandhkhaaDoor
