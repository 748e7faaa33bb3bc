/- The wheel: which of the timers 1 to n are on, and when they are due. -/
import Derived.Test.YtnobodgjabgikaaProg
import Derived.Test.YtnobodgjabgikaaWhT
import Derived.Test.YtnobodgjabgikaaArr
namespace Go.Proofs.Ytnobodgjabgikaa
open Go.RowKit Go.Sort
set_option linter.unusedSimpArgs false
set_option linter.unusedVariables false

/-- Of the timers 1 to n those are there that are on. -/
structure DueIs (D : List (Int × Int)) (n : Nat) (On : Nat → Bool) (Wt : Nat → Nat) : Prop where
  nd : (D.map (·.1)).Nodup
  get : ∀ id d, mget D id = some d ↔ 1 ≤ id ∧ id ≤ (n : Int) ∧ On (id - 1).toNat = true ∧ d = (Wt (id - 1).toNat : Int)

theorem DueIs.congr {D : List (Int × Int)} {n : Nat} {On On' : Nat → Bool} {Wt Wt' : Nat → Nat} (h : DueIs D n On Wt) (h1 : ∀ i, i < n → On i = On' i) (h2 : ∀ i, i < n → On i = true → Wt i = Wt' i) : DueIs D n On' Wt' :=
  ⟨h.nd, fun id d => by
    rw [h.get]
    constructor
    · rintro ⟨a, b, c, e⟩
      exact ⟨a, b, by rw [← h1 _ (by omega)]; exact c, by rw [← h2 _ (by omega) c]; exact e⟩
    · rintro ⟨a, b, c, e⟩
      rw [← h1 _ (by omega)] at c
      exact ⟨a, b, c, by rw [h2 _ (by omega) c]; exact e⟩⟩
theorem DueIs.nil (n : Nat) (Wt : Nat → Nat) : DueIs [] n (fun _ => false) Wt := ⟨List.nodup_nil, fun id d => by simp [mget_nil]⟩
theorem DueIs.none {D : List (Int × Int)} {n : Nat} {On : Nat → Bool} {Wt : Nat → Nat} (h : DueIs D n On Wt) {k : Nat} (hk : On k = false) : mget D ((k : Int) + 1) = none := by
  cases hm : mget D ((k : Int) + 1) with
  | none => rfl
  | some d =>
    have := (h.get _ d).1 hm
    rw [show ((k : Int) + 1 - 1).toNat = k by omega, hk] at this
    exact absurd this.2.2.1 (by simp)
theorem DueIs.some {D : List (Int × Int)} {n : Nat} {On : Nat → Bool} {Wt : Nat → Nat} (h : DueIs D n On Wt) {k : Nat} (hkn : k < n) (hk : On k = true) : mget D ((k : Int) + 1) = some (Wt k : Int) :=
  (h.get _ _).2 ⟨by omega, by omega, by rw [show ((k : Int) + 1 - 1).toNat = k by omega]; exact hk, by rw [show ((k : Int) + 1 - 1).toNat = k by omega]⟩
theorem DueIs.len {D : List (Int × Int)} {n : Nat} {On : Nat → Bool} {Wt : Nat → Nat} (h : DueIs D n On Wt) : D.length ≤ n := by
  have h1 : D.Nodup := (List.Pairwise.of_map (f := (·.1)) (S := fun a b => a ≠ b) (fun a b hab e => hab (by rw [e])) h.nd)
  have h2 := len_le_of_inj (m := List.range n) (fun e : Int × Int => (e.1 - 1).toNat) h1 (fun x hx y hy e => by
    have gx := (h.get x.1 x.2).1 (mget_of_mem h.nd hx)
    have gy := (h.get y.1 y.2).1 (mget_of_mem h.nd hy)
    have e1 : x.1 = y.1 := by
      have : (x.1 - 1).toNat = (y.1 - 1).toNat := e
      omega
    exact Prod.ext e1 (by rw [gx.2.2.2, gy.2.2.2, e1])) (fun x hx => by
    have gx := (h.get x.1 x.2).1 (mget_of_mem h.nd hx)
    rw [List.mem_range]; omega)
  rwa [List.length_range] at h2
theorem DueIs.add {D : List (Int × Int)} {n : Nat} {On : Nat → Bool} {Wt : Nat → Nat} (h : DueIs D n On Wt) {k d : Nat} (hkn : k < n) (hk : On k = false) :
    DueIs (D ++ [((k : Int) + 1, (d : Int))]) n (fun i => if i = k then true else On i) (fun i => if i = k then d else Wt i) := by
  have hn := h.none hk
  rw [← mput_new (v := (d : Int)) hn]
  refine ⟨mput_nodup h.nd _ _, fun id d' => ?_⟩
  rw [mget_mput]
  by_cases hid : (k : Int) + 1 = id
  · subst hid
    rw [if_pos rfl, show ((k : Int) + 1 - 1).toNat = k by omega]
    simp only [if_true, true_and, Option.some.injEq]
    constructor
    · intro e; exact ⟨by omega, by omega, e.symm⟩
    · rintro ⟨_, _, e⟩; exact e.symm
  · rw [if_neg hid, h.get]
    constructor
    · rintro ⟨a, b, c, e⟩
      have : (id - 1).toNat ≠ k := by omega
      exact ⟨a, b, by simp only [if_neg this]; exact c, by simp only [if_neg this]; exact e⟩
    · rintro ⟨a, b, c, e⟩
      have : (id - 1).toNat ≠ k := by omega
      simp only [if_neg this] at c e
      exact ⟨a, b, c, e⟩
theorem DueIs.del {D : List (Int × Int)} {n : Nat} {On : Nat → Bool} {Wt : Nat → Nat} (h : DueIs D n On Wt) (k : Nat) : DueIs (mdel D ((k : Int) + 1)) n (fun i => if i = k then false else On i) Wt := by
  refine ⟨mdel_nodup h.nd _, fun id d => ?_⟩
  rw [mget_mdel]
  by_cases hid : (k : Int) + 1 = id
  · subst hid
    rw [if_pos rfl, show ((k : Int) + 1 - 1).toNat = k by omega]
    simp
  · rw [if_neg hid, h.get]
    constructor
    · rintro ⟨a, b, c, e⟩
      have : (id - 1).toNat ≠ k := by omega
      exact ⟨a, b, by simp only [if_neg this]; exact c, e⟩
    · rintro ⟨a, b, c, e⟩
      have : (id - 1).toNat ≠ k := by omega
      simp only [if_neg this] at c
      exact ⟨a, b, c, e⟩
theorem DueIs.late {D : List (Int × Int)} {n : Nat} {On : Nat → Bool} {Wt : Nat → Nat} (h : DueIs D n On Wt) (T : Nat) : DueIs (lateD D T) n (fun i => On i && decide (T < Wt i)) Wt :=
  ⟨lateD_nodup h.nd T, fun id d => by
    rw [mget_late h.nd, h.get, Bool.and_eq_true, decide_eq_true_iff]
    constructor
    · rintro ⟨⟨a, b, c, e⟩, f⟩; exact ⟨a, b, ⟨c, by omega⟩, e⟩
    · rintro ⟨a, b, ⟨c, f⟩, e⟩; exact ⟨⟨a, b, c, e⟩, by omega⟩⟩
/-- What is told of them. -/
theorem DueIs.told {D : List (Int × Int)} {n : Nat} {On : Nat → Bool} {Wt : Nat → Nat} (h : DueIs D n On Wt) {T : Nat} {xs : List Tm} (ht : TolD D T xs) {t : Tm} :
    t ∈ xs ↔ ∃ k : Nat, k < n ∧ t = ((Wt k : Int), (k : Int) + 1) ∧ On k = true ∧ Wt k ≤ T := by
  rw [ht.mem, h.get]
  constructor
  · rintro ⟨⟨a, b, c, e⟩, f⟩
    exact ⟨(t.2 - 1).toNat, by omega, Prod.ext e (by show t.2 = (((t.2 - 1).toNat : Nat) : Int) + 1; omega), c, by omega⟩
  · rintro ⟨k, hk, rfl, c, f⟩
    simp only [show ((k : Int) + 1 - 1).toNat = k by omega]
    exact ⟨⟨by omega, by omega, c, by simp⟩, by omega⟩
theorem DueIs.empty {D : List (Int × Int)} {n : Nat} {On : Nat → Bool} {Wt : Nat → Nat} (h : DueIs D n On Wt) (h0 : ∀ i, i < n → On i = false) : D.length = 0 := by
  cases D with
  | nil => rfl
  | cons e D =>
    have := (h.get e.1 e.2).1 (mget_of_mem h.nd (List.mem_cons_self ..))
    rw [h0 _ (by omega)] at this
    exact absurd this.2.2.1 (by simp)

end Go.Proofs.Ytnobodgjabgikaa
