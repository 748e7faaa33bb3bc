/- CmdWords, plain: what its lines say. -/
import Derived.Test.YtgiimmiandhkhaaDoorProg
import Derived.Test.YtgiimmiandhkhaaDoorCmS
namespace Go.Proofs.YtgiimmiandhkhaaDoor
open Go.RowKit
set_option linter.unusedSimpArgs false
set_option linter.unusedVariables false

def nmW (j : Nat) : List UInt8 := cmNames[j]?.getD []
def rnW (j : Nat) : Nat := ([3, 4, 5, 1, 2, 2, 1, 2, 1, 0, 1, 0, 0, 0] : List Nat)[j]?.getD 0
def bdW (j : Nat) : Bool := decide (j < 3)
def B2 : List BOp := [⟨1, 0, 0⟩, ⟨2, 3, 0⟩]
theorem B2_text : textL B2 = [110, 111, 112, 59, 115, 117, 98, 109, 105, 116, 32, 51] := by
  have h3 : Lib.itoa 3 = [51] := by
    have := Lib.itoa_nonneg 3
    rw [Lib.decDigits_one (by omega)] at this
    exact this
  have h1 : toldL ⟨1, 0, 0⟩ = [110, 111, 112] := by
    unfold toldL
    rw [show arOf (1 : Int) = 0 from rfl, (argsL_eq _).1]; rfl
  have h2 : toldL ⟨2, 3, 0⟩ = [115, 117, 98, 109, 105, 116, 32, 51] := by
    unfold toldL
    rw [show arOf (2 : Int) = 1 from rfl, (argsL_eq _).2.1]
    show wdOf 2 ++ 32 :: Lib.itoa 3 = _
    rw [h3]; rfl
  unfold textL B2
  rw [if_neg (by simp), List.map_cons, List.map_cons, List.map_nil, h1, h2]
  rfl
theorem B2_parse : parseV (comma bodyW) = (B2, 0) := by
  have := parse_text B2 (by decide)
  rw [B2_text] at this
  exact this
def okAt (f : UInt8) (w : List UInt8) : Prop := (f = 98 ∧ w = bodyW) ∨ (f ≠ 98 ∧ ∃ d, d < 8 ∧ w = [UInt8.ofNat (48 + d)])
def Fit : List UInt8 → List (List UInt8) → Prop
  | [], [] => True
  | f :: F, w :: ws => okAt f w ∧ Fit F ws
  | _, _ => False
theorem fit_of : ∀ (F : List UInt8) (ws : List (List UInt8)), F.length = ws.length → (∀ i (h1 : i < F.length) (h2 : i < ws.length), okAt F[i] ws[i]) → Fit F ws
  | [], [], _, _ => trivial
  | [], _ :: _, h, _ => by simp at h
  | _ :: _, [], h, _ => by simp at h
  | f :: F, w :: ws, h, k => ⟨k 0 (by simp) (by simp), fit_of F ws (by simpa using h) (fun i h1 h2 => k (i + 1) (by simpa using h1) (by simpa using h2))⟩
theorem numV_one (d : Nat) (hd : d < 8) (m : Nat) (hm : 1 ≤ m) : numV [UInt8.ofNat (48 + d)] m = some d := by
  have e : Lib.decDigits d = [UInt8.ofNat (48 + d)] := by rw [dec_rec, if_pos (by omega)]
  rw [← e]
  exact numV_dec d m (by rw [e]; exact hm)
theorem take_ok (c : Cm) (f : UInt8) (w : List UInt8) (h : okAt f w) : ∃ c', takeV c f w = some c' ∧ c'.k = c.k ∧ c'.body = (if f = 98 then B2 else c.body) ∧ ((∀ x ∈ c.preds, 0 ≤ x ∧ x < 8) → ∀ x ∈ c'.preds, 0 ≤ x ∧ x < 8) := by
  rcases h with ⟨rfl, rfl⟩ | ⟨hf, d, hd, rfl⟩
  · refine ⟨{ c with body := B2 }, ?_, rfl, by simp, fun h => h⟩
    unfold takeV
    rw [if_pos rfl, B2_parse]
    rfl
  · have h4 := numV_one d hd 4 (by omega)
    have h18 := numV_one d hd 18 (by omega)
    unfold takeV
    rw [if_neg hf, h4, h18, if_neg hf]
    simp only [Option.map_some]
    repeat' split
    all_goals (refine ⟨_, rfl, rfl, rfl, ?_⟩; intro h x hx; first | exact h x hx | skip)
    simp only [List.mem_append, List.mem_singleton] at hx
    rcases hx with hx | rfl
    · exact h x hx
    · omega
theorem takes_ok : ∀ (F : List UInt8) (ws : List (List UInt8)) (c : Cm), Fit F ws → ∃ c', takesV c F ws = some c' ∧ c'.k = c.k ∧ c'.body = (if 98 ∈ F then B2 else c.body) ∧ ((∀ x ∈ c.preds, 0 ≤ x ∧ x < 8) → ∀ x ∈ c'.preds, 0 ≤ x ∧ x < 8)
  | [], [], c, _ => ⟨c, rfl, rfl, by simp, fun h => h⟩
  | [], _ :: _, c, h => h.elim
  | _ :: _, [], c, h => h.elim
  | f :: F, w :: ws, c, h => by
    obtain ⟨c1, e1, k1, b1, p1⟩ := take_ok c f w h.1
    obtain ⟨c2, e2, k2, b2, p2⟩ := takes_ok F ws c1 h.2
    refine ⟨c2, by rw [takesV, e1]; exact e2, by rw [k2, k1], ?_, fun hp => p2 (p1 hp)⟩
    rw [b2, b1]
    by_cases hf : f = 98
    · subst hf; simp
    · have : ¬ (98 : UInt8) = f := fun e => hf e.symm
      simp [hf, this]
theorem argW_32 (bd : Bool) (g : Nat → Nat) (hg8 : ∀ k, g k < 8) (i : Nat) : (32 : UInt8) ∉ argW bd g i := by
  unfold argW
  split
  · decide
  · have h := hg8 i
    generalize g i = d at *
    have : d = 0 ∨ d = 1 ∨ d = 2 ∨ d = 3 ∨ d = 4 ∨ d = 5 ∨ d = 6 ∨ d = 7 := by omega
    rcases this with rfl | rfl | rfl | rfl | rfl | rfl | rfl | rfl <;> decide
theorem spl_spaced (word : List UInt8) (h : 32 ∉ word) : ∀ (l : List (List UInt8)), (∀ x ∈ l, (32 : UInt8) ∉ x) → spl 32 (word ++ l.flatMap (fun x => 32 :: x)) = word :: l := by
  intro l
  induction l generalizing word with
  | nil => intro _; simp; exact spl_no 32 word h
  | cons x l ih =>
    intro hl
    rw [List.flatMap_cons, List.cons_append, spl_app 32 word h, ih x (hl x (by simp)) (fun y hy => hl y (by simp [hy]))]
theorem spl_lineW (word : List UInt8) (h : 32 ∉ word) (bd : Bool) (g : Nat → Nat) (hg8 : ∀ k, g k < 8) (n : Nat) : spl 32 (lineW word bd g n) = word :: (List.range n).map (argW bd g) := by
  have := spl_spaced word h ((List.range n).map (argW bd g)) (by
    intro x hx
    obtain ⟨i, _, rfl⟩ := List.mem_map.1 hx
    exact argW_32 bd g hg8 i)
  rw [← this, lineW, List.flatMap_map]
theorem nm_len (j : Nat) (hj : j < 14) : (nmW j).length ≤ 8 ∧ (32 : UInt8) ∉ nmW j ∧ cmNames.findIdx? (fun x => decide (x = nmW j)) = some j := by
  have : j = 0 ∨ j = 1 ∨ j = 2 ∨ j = 3 ∨ j = 4 ∨ j = 5 ∨ j = 6 ∨ j = 7 ∨ j = 8 ∨ j = 9 ∨ j = 10 ∨ j = 11 ∨ j = 12 ∨ j = 13 := by omega
  rcases this with rfl | rfl | rfl | rfl | rfl | rfl | rfl | rfl | rfl | rfl | rfl | rfl | rfl | rfl <;> decide
theorem refW (j : Nat) (hj : j < 14) (bd : Bool) (g : Nat → Nat) (hg8 : ∀ k, g k < 8) (m : Nat) (hm : m ≤ 31) :
    cmdV (lineW (nmW j) bd g m) = if m = (grown (j + 1) m).length then
        match takesV (Cm.zero ((j : Int) + 1)) (grown (j + 1) m) ((List.range m).map (argW bd g)) with
        | none => (Cm.zero 0, (3 : Int))
        | some c => (c, (0 : Int))
      else (Cm.zero 0, (3 : Int)) := by
  obtain ⟨h1, h2, h3⟩ := nm_len j hj
  have hlen := lineW_len (nmW j) bd g m
  rw [← refV_eq]
  unfold refV
  rw [if_neg (by omega), spl_lineW _ h2 bd g hg8 m]
  simp only [List.head?_cons, Option.getD_some, List.tail_cons, List.length_map, List.length_range]
  erw [h3]
  rfl
/-- How many words may be. -/
def goodW (j m : Nat) : Prop := m = rnW j ∨ (j = 0 ∧ 3 < m ∧ m ≤ 19)
instance (j m : Nat) : Decidable (goodW j m) := by unfold goodW; infer_instance
theorem grown_len (j : Nat) (hj : j < 14) (m : Nat) : m = (grown (j + 1) m).length ↔ goodW j m := by
  have : j = 0 ∨ j = 1 ∨ j = 2 ∨ j = 3 ∨ j = 4 ∨ j = 5 ∨ j = 6 ∨ j = 7 ∨ j = 8 ∨ j = 9 ∨ j = 10 ∨ j = 11 ∨ j = 12 ∨ j = 13 := by omega
  rcases this with rfl | rfl | rfl | rfl | rfl | rfl | rfl | rfl | rfl | rfl | rfl | rfl | rfl | rfl <;> simp [grown, cmForm, goodW, rnW]
  omega
theorem grown_fit (j : Nat) (hj : j < 14) (m : Nat) (i : Nat) (hi : i < (grown (j + 1) m).length) : (grown (j + 1) m)[i] = 98 ↔ (bdW j = true ∧ i = 2) := by
  have hjj : j = 0 ∨ j = 1 ∨ j = 2 ∨ j = 3 ∨ j = 4 ∨ j = 5 ∨ j = 6 ∨ j = 7 ∨ j = 8 ∨ j = 9 ∨ j = 10 ∨ j = 11 ∨ j = 12 ∨ j = 13 := by omega
  rcases hjj with rfl | hjj
  · by_cases h3 : i < 3
    · have : i = 0 ∨ i = 1 ∨ i = 2 := by omega
      rcases this with rfl | rfl | rfl <;> simp [grown, bdW]
    · have e : (grown (0 + 1) m)[i] = 108 := by
        simp only [grown, if_true, Nat.zero_add]
        rw [List.getElem_append_right (by simp; omega), List.getElem_replicate]
      rw [e]
      constructor
      · intro h; exact absurd h (by decide)
      · rintro ⟨_, rfl⟩; omega
  · rcases hjj with rfl | rfl | rfl | rfl | rfl | rfl | rfl | rfl | rfl | rfl | rfl | rfl | rfl
    all_goals
      simp only [grown, Nat.reduceAdd, Nat.reduceEqDiff, if_false, cmForm, List.length_cons, List.length_nil] at hi ⊢
      first
        | omega
        | (have : i = 0 ∨ i = 1 ∨ i = 2 ∨ i = 3 ∨ i = 4 := by omega
           rcases this with rfl | rfl | rfl | rfl | rfl <;> first | omega | simp [bdW])
theorem words_good (j : Nat) (hj : j < 14) (g : Nat → Nat) (hg8 : ∀ k, g k < 8) (m : Nat) (hm : m ≤ 31) (hgood : goodW j m) :
    ∃ c, cmdV (lineW (nmW j) (bdW j) g m) = (c, 0) ∧ c.k = (j : Int) + 1 ∧ (m ≠ 0 → True) ∧ (98 ∈ grown (j + 1) m → c.body = B2) ∧ ∀ x ∈ c.preds, 0 ≤ x ∧ x < 8 := by
  have hl := (grown_len j hj m).2 hgood
  rw [refW j hj (bdW j) g hg8 m hm, if_pos hl]
  have hfit : Fit (grown (j + 1) m) ((List.range m).map (argW (bdW j) g)) := by
    refine fit_of _ _ (by simp; exact hl.symm) (fun i h1 h2 => ?_)
    rw [List.getElem_map, List.getElem_range]
    have hf := grown_fit j hj m i h1
    unfold okAt argW
    by_cases hb : bdW j = true ∧ i = 2
    · rw [if_pos hb]
      exact .inl ⟨hf.2 hb, rfl⟩
    · rw [if_neg hb]
      exact .inr ⟨fun e => hb (hf.1 e), g i, hg8 i, rfl⟩
  obtain ⟨c, e, hk, hb, hp⟩ := takes_ok _ _ (Cm.zero ((j : Int) + 1)) hfit
  rw [e]
  exact ⟨c, rfl, hk, fun _ => trivial, fun h => by rw [hb, if_pos h], hp (by simp [Cm.zero])⟩
theorem words_bad (j : Nat) (hj : j < 14) (g : Nat → Nat) (hg8 : ∀ k, g k < 8) (m : Nat) (hm : m ≤ 31) (hgood : ¬ goodW j m) : (cmdV (lineW (nmW j) (bdW j) g m)).2 = 3 := by
  rw [refW j hj (bdW j) g hg8 m hm, if_neg (fun h => hgood ((grown_len j hj m).1 h))]
theorem words_2 (j : Nat) (hj : j < 14) (g : Nat → Nat) (hg8 : ∀ k, g k < 8) (m : Nat) (hm : m ≤ 31) : (cmdV (lineW (nmW j) (bdW j) g m)).2 = if goodW j m then 0 else 3 := by
  by_cases h : goodW j m
  · obtain ⟨c, e, _⟩ := words_good j hj g hg8 m hm h
    rw [e, if_pos h]
  · rw [words_bad j hj g hg8 m hm h, if_neg h]
theorem words_rn (j : Nat) (hj : j < 14) (g : Nat → Nat) (hg8 : ∀ k, g k < 8) :
    ∃ c, cmdV (lineW (nmW j) (bdW j) g (rnW j)) = (c, 0) ∧ c.k = (j : Int) + 1 ∧ (bdW j = true → c.body.length = 2) ∧ CmR c := by
  have hr : rnW j ≤ 5 := by
    have : j = 0 ∨ j = 1 ∨ j = 2 ∨ j = 3 ∨ j = 4 ∨ j = 5 ∨ j = 6 ∨ j = 7 ∨ j = 8 ∨ j = 9 ∨ j = 10 ∨ j = 11 ∨ j = 12 ∨ j = 13 := by omega
    rcases this with rfl | rfl | rfl | rfl | rfl | rfl | rfl | rfl | rfl | rfl | rfl | rfl | rfl | rfl <;> decide
  obtain ⟨c, e, hk, _, hb, hp⟩ := words_good j hj g hg8 (rnW j) (by omega) (.inl rfl)
  obtain ⟨_, _, _, _, w1, w2, w3, w4, w5, w6, w7, w8, w9, w10⟩ := cmd_told e
  refine ⟨c, e, hk, fun h => ?_, ⟨by omega, by omega, by omega, by omega, by omega, fun x hx => by have := hp x hx; omega⟩⟩
  rw [hb]
  · rfl
  · have : j = 0 ∨ j = 1 ∨ j = 2 := by simp [bdW] at h; omega
    rcases this with rfl | rfl | rfl <;> decide
end Go.Proofs.YtgiimmiandhkhaaDoor
