/- Walks of package dag, part 1. -/
import Derived.Test.YtolihdcfhonfgaaProg
import Derived.Test.YtolihdcfhonfgaaKeys
import Derived.StillTailTactics
import Derived.Deep.DeepCutAuto
namespace Go.Proofs.Ytolihdcfhonfgaa
open Go.RowKit
set_option linter.unusedSimpArgs false
set_option linter.unusedVariables false

/-- What an op on whole numbers leaves. -/
def addBad (id p : Int) : Bool := decide (p < 1) || decide (p ≥ id)

theorem add1_calls (p id : Int) (b : Nat) (w : World) (hc : w.cell? ⟨b, 0, none⟩ = some (.int .i64 id)) :
    Calls Try.prog 24 #[.int .i64 p, .pointer (some ⟨b, 0, none⟩)] w fun e w' => e = .returned (.bool (addBad id p)) ∧ w = w' := by
  by_cases h1 : p < 1
  · go_enter Try.func24, Try.ntmps24
    go_wp2
    go_ret
    exact ⟨by simp [addBad, h1], rfl⟩
  · have h1' : decide (p < 1) = false := by simpa using h1
    go_enter Try.func24, Try.ntmps24
    go_wp2
    go_ret
    exact ⟨by simp [addBad, h1'], rfl⟩

/-- A predicate over whole numbers that only reads. -/
structure Pred1 (F : FuncId) (caps : Array Value) (p : Int → Bool) (w : World) : Prop where
  plain : Plainly Try.prog F
  calls : ∀ (x : Int) (w' : World), Ext NoB w w' → Calls Try.prog F (#[.int .i64 x] ++ caps) w' fun e w'' => e = .returned (.bool (p x)) ∧ Ext NoB w' w''

def findIx {α : Type} (p : α → Bool) (xs : List α) : Int := match xs.findIdx? p with | some i => (i : Int) | none => -1
theorem findIx_at {α : Type} (p : α → Bool) (xs : List α) (k : Nat) (hk : k < xs.length) (hno : ∀ j (hj : j < xs.length), j < k → p xs[j] = false) (h : p xs[k] = true) : findIx p xs = k := by
  unfold findIx
  have : xs.findIdx? p = some k := by
    rw [List.findIdx?_eq_some_iff_getElem]
    exact ⟨hk, h, fun j hj => by simp [hno j (by omega) hj]⟩
  rw [this]
theorem findIx_none {α : Type} (p : α → Bool) (xs : List α) (hno : ∀ j (hj : j < xs.length), p xs[j] = false) : findIx p xs = -1 := by
  unfold findIx
  have : xs.findIdx? p = none := by
    rw [List.findIdx?_eq_none_iff]
    intro x hx
    obtain ⟨j, hj, rfl⟩ := List.getElem_of_mem hx
    exact hno j hj
  rw [this]

theorem indexFunc_int (F : FuncId) (caps : Array Value) (p : Int → Bool) (A : Option Addr) (c b o : Nat) (xs : List Int) (w : World) (hs : SlR w 1 intE A c b o xs) (hp : Pred1 F caps p w) :
    Calls Try.prog 31 #[.slice A xs.length c, .func (.func F) #[] caps] w fun e w' => e = .returned (.int .i64 (findIx p xs)) ∧ Ext NoB w w' := by
  have hm := hs.max
  have hl := hs.le
  unfold maxLen at hm
  have hpl : ∀ args w, (callFunc F args).run Try.prog w = .ok (.enter F args) w := hp.plain
  go_enter Try.func31, Try.ntmps31
  go_wp2_with fail
  go_loopw [8] (fun i wr => ∃ k : Nat, k ≤ xs.length ∧ i = .int .i64 k ∧ (∀ j (hj : j < xs.length), j < k → p xs[j] = false) ∧ Ext NoB w wr) (fun i _ => xs.length - (intOf i).toNat)
  case atStart => exact ⟨0, Nat.zero_le _, rfl, fun _ _ h => absurd h (Nat.not_lt_zero _), Ext.refl _ _⟩
  case round =>
    obtain ⟨k, hk, rfl, hno, hext⟩ := hrel
    by_cases hlt : k < xs.length
    · obtain rfl := hs.addr (by omega)
      have hcell := (hs.keep hext nb1).intCell k hlt
      have hno' := Lib.hid hno
      clear hno
      cases hpk : p xs[k] with
      | true =>
        have hfin := Lib.hid (findIx_at p xs k hlt hno'.out hpk)
        have hpk' := Lib.hid hpk
        clear hpk
        go_wp2_with fail
        refine (hp.calls _ _ hext).mono ?_
        rintro e w1 ⟨rfl, hx⟩
        rw [hpk'.out]
        go_wp2_with fail
        go_ret
        exact ⟨by rw [hfin.out]; rfl, hext.trans hx (fun _ _ => id)⟩
      | false =>
        have hpk' := Lib.hid hpk
        clear hpk
        go_wp2_with fail
        refine (hp.calls _ _ hext).mono ?_
        rintro e w1 ⟨rfl, hx⟩
        rw [hpk'.out]
        go_wp2_with fail
        go_roundw
        case rel =>
          refine ⟨k + 1, by omega, by go_num, fun j hj hjk => ?_, hext.trans hx (fun _ _ => id)⟩
          by_cases e : j = k
          · subst e; exact hpk'.out
          · exact hno'.out j hj (by omega)
        case measure => simp [intOf]; omega
    · have hfin := Lib.hid (findIx_none p xs (fun j hj => hno j hj (by omega)))
      clear hno
      go_wp2_with fail
      go_ret
      exact ⟨by rw [hfin.out]; rfl, hext⟩

theorem findIx_any {α : Type} (p : α → Bool) (xs : List α) : decide (0 ≤ findIx p xs) = xs.any p := by
  unfold findIx
  cases h : xs.findIdx? p with
  | none =>
    rw [List.findIdx?_eq_none_iff] at h
    have : xs.any p = false := by simpa using h
    simp [this]
  | some i =>
    have : xs.any p = true := by
      rw [List.findIdx?_eq_some_iff_getElem] at h
      obtain ⟨hi, hp, _⟩ := h
      exact List.any_eq_true.2 ⟨_, List.getElem_mem hi, hp⟩
    simp [this]

theorem containsFunc_int (F : FuncId) (caps : Array Value) (p : Int → Bool) (A : Option Addr) (c b o : Nat) (xs : List Int) (w : World) (hs : SlR w 1 intE A c b o xs) (hp : Pred1 F caps p w) :
    Calls Try.prog 23 #[.slice A xs.length c, .func (.func F) #[] caps] w fun e w' => e = .returned (.bool (xs.any p)) ∧ Ext NoB w w' := by
  have H := Lib.hid (findIx_any p xs)
  go_enter Try.func23, Try.ntmps23
  go_wp2_with fail
  refine (indexFunc_int F caps p A c b o xs w hs hp).mono ?_
  rintro e w1 ⟨rfl, hx⟩
  go_wp2_with fail
  go_ret
  exact ⟨by rw [← H.out]; rfl, hx⟩

end Go.Proofs.Ytolihdcfhonfgaa
