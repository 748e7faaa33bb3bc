/- The law DagApart. -/
import Derived.Test.YtolihdcfhonfgaaProg
import Derived.Test.YtolihdcfhonfgaaDagL2
namespace Go.Proofs.Ytolihdcfhonfgaa
open Go.RowKit
set_option linter.unusedSimpArgs false
set_option linter.unusedVariables false

/-- The list a, a + 2, .. -/
def upI2 (a : Int) (k : Nat) : List Int := (List.range k).map (fun (j : Nat) => 2 * (j : Int) + a)
theorem upI2_len (a : Int) (k : Nat) : (upI2 a k).length = k := by simp [upI2]
theorem upI2_mem (a : Int) (k : Nat) (x : Int) : x ∈ upI2 a k ↔ a ≤ x ∧ x < a + 2 * k ∧ (x - a) % 2 = 0 := by
  unfold upI2
  simp only [List.mem_map, List.mem_range]
  constructor
  · rintro ⟨j, hj, rfl⟩; omega
  · rintro ⟨h1, h2, h3⟩; exact ⟨((x - a) / 2).toNat, by omega, by omega⟩
theorem upI2_sorted (a : Int) (k : Nat) : (upI2 a k).Pairwise (· < ·) := by
  unfold upI2
  rw [List.pairwise_map]
  exact (List.pairwise_lt_range (n := k)).imp (fun h => by omega)

/-- Two chains by turns up to lim. -/
def ApE (lim p x : Int) : Prop := x = p + 2 ∧ 1 ≤ p ∧ x ≤ lim
theorem rch_ap {lim a : Int} (h1 : 1 ≤ a) (h2 : a ≤ lim) (x : Int) : Rch (ApE lim) a x ↔ a ≤ x ∧ x ≤ lim ∧ (x - a) % 2 = 0 := by
  constructor
  · intro h
    induction h with
    | refl => exact ⟨Int.le_refl _, h2, by simp⟩
    | step _ he ih => obtain ⟨e1, e2, e3⟩ := he; omega
  · rintro ⟨h3, h4, h5⟩
    obtain ⟨k, rfl⟩ : ∃ k : Nat, x = a + 2 * k := ⟨((x - a) / 2).toNat, by omega⟩
    clear h3 h5
    induction k with
    | zero => simpa using Rch.refl (E := ApE lim)
    | succ k ih => exact .step (ih (by omega)) ⟨by omega, by omega, h4⟩

theorem mask_rem0 (a : Int) (q : Nat) (hq : 0 < q) : ∃ m : Nat, m < q ∧ (bits .and .i64 a 255).tmod (q : Int) = (m : Int) := by
  rw [i64_and255]
  have h1 := Int.emod_nonneg a (show (256 : Int) ≠ 0 by decide)
  rw [Int.tmod_eq_emod_of_nonneg h1]
  have h3 := Int.emod_nonneg (a % 256) (show (q : Int) ≠ 0 by omega)
  have h4 := Int.emod_lt_of_pos (a % 256) (show (0 : Int) < q by omega)
  exact ⟨(a % 256 % q).toNat, by omega, by omega⟩

set_option maxHeartbeats 2000000 in
theorem apart_walk (a0 a1 : Int) (w0 : (Lit.int .i64 a0).wf = true) (w1 : (Lit.int .i64 a1).wf = true) (w : World) :
    Calls Try.prog 4 #[.int .i64 a0, .int .i64 a1] w fun e w' => e = .returned (.bool true) ∧ Ext NoB w w' := by
  obtain ⟨n, hn1, hn2, hn0⟩ := mask_rem a0 30 2 (by omega) (by omega)
  have hn : wrap64 ((bits .and .i64 a0 255).tmod 30 + 2) = (n : Int) := hn0
  obtain ⟨at', ha2, hat⟩ := mask_rem0 a1 n (by omega)
  clear hn0
  have hnz : (n : Int) ≠ 0 := by omega
  go_enter Try.func4, Try.ntmps4
  go_wp2_with fail
  simp only [hn, hat]
  clear hn hat
  refine (newS w).mono ?_
  rintro e w1 ⟨b1, r11, r12, rfl, hd1, hx1, hb1, hr11, hr12⟩
  have hl1 := hd1.lt
  have hs1 := hx1.size
  go_wp2_with fail
  go_loopw [6] (fun i wr => ∃ k : Nat, k + 1 ≤ n ∧ i = .int .i64 ((k : Int) + 1) ∧ DagS wr b1 r11 r12 (ApE (2 * (k : Int) + 2)) (2 * k) ∧ Ext (fun q => q = r11 ∨ q = r12) w1 wr) (fun i _ => n + 2 - (intOf i).toNat)
  case atStart => exact ⟨0, by omega, rfl, hd1.congr (fun p x => by simp only [false_iff]; rintro ⟨h1, h2, h3⟩; omega) (Nat.le_refl _), Ext.refl _ _⟩
  case round =>
    obtain ⟨k, hk, rfl, hd, hext⟩ := hrel
    by_cases hlt : k + 1 < n
    · have hdt : decide ((k : Int) + 1 < n) = true := by simp; omega
      go_wp2_with fail
      go_loopw [7] (fun i wr => ∃ c : Nat, c ≤ 2 ∧ i = .int .i64 ((c : Int) + 1) ∧ DagS wr b1 r11 r12 (ApE (2 * (k : Int) + 2 + c)) (2 * k + c) ∧ Ext (fun q => q = r11 ∨ q = r12) w1 wr) (fun i _ => 3 - (intOf i).toNat)
      case atStart => exact ⟨0, by omega, rfl, by simpa using hd, hext⟩
      case round =>
        obtain ⟨c, hc, rfl, hdc, hextc⟩ := hrel
        by_cases hc2 : c < 2
        · have hA : Ext NoB wr (wr.alloc (.cells #[.int .i64 (2 * (k : Int) + 1 + c)] 3)) := (Ext.refl _ _).alloc _
          have hsr : SlR (wr.alloc (.cells #[.int .i64 (2 * (k : Int) + 1 + c)] 3)) 1 intE (some ⟨wr.heap.size, 0, none⟩) 1 wr.heap.size 0 [2 * (k : Int) + 1 + c] := slR_block (xs := [2 * (k : Int) + 1 + c]) (alloc_at wr _) rfl (by simp [maxLen])
          have he1 : 2 * ((k : Int) + 1) + (c + 1) = 2 * (k : Int) + 3 + c := by omega
          have he2 : 2 * (k : Int) + 3 + c - 2 = 2 * (k : Int) + 1 + c := by omega
          go_wp2_with fail
          have hcall := addS (2 * (k : Int) + 3 + c) _ 1 _ _ [2 * (k : Int) + 1 + c] (hdc.keep hA nb nb nb) hsr (by simp; omega) (by omega) (inR_of (by omega) (by omega)) (by intro p hp; simp at hp; omega) (fun p hp => by unfold ApE at hp; omega)
          rw [show ([2 * (k : Int) + 1 + c] : List Int).length = 1 from rfl] at hcall
          with_reducible refine hcall.mono ?_
          clear hcall
          rintro e w2 ⟨m, rfl, hm, hd2, hx2⟩
          have hm1 : m = 1 := hm [2 * (k : Int) + 1 + c] (by simp) (by simp)
          subst hm1
          clear hm
          go_wp2_with fail
          go_roundw
          case rel =>
            refine ⟨c + 1, by omega, by go_num, hd2.congr (fun p x => ?_) (by omega), (hextc.trans hA (fun _ _ h => h.elim)).trans hx2 (fun _ _ h => h)⟩
            unfold ApE
            simp only [List.mem_singleton]
            omega
          case measure => simp [intOf]; omega
        · obtain rfl : c = 2 := by omega
          go_wp2_with fail
          go_roundw
          case rel => exact ⟨k + 1, by omega, by go_num, hdc.congr (fun p x => by unfold ApE; omega) (by omega), hextc⟩
          case measure => simp [intOf]; omega
    · have hkn : (k : Int) + 1 = n := by omega
      have hd0 := hd.congr (E' := ApE (2 * (n : Int))) (M := 100) (fun p x => by unfold ApE; omega) (by omega)
      clear hd hkn
      go_wp2_with fail
      with_reducible refine (killS (2 * (at' : Int) + 1) (inR_of (by omega) (by omega)) hd0 (by omega)).mono ?_
      rintro e w5 ⟨v5, g5, l5, rfl, hO5, hs5, _, hd5, hx5, hg5⟩
      have hl5 : l5 = upI2 (2 * (at' : Int) + 3) (n - 1 - at') := hs5.unique ⟨upI2_sorted _ _, fun x => by
        show x ∈ upI2 (2 * (at' : Int) + 3) (n - 1 - at') ↔ (Rch (ApE (2 * (n : Int))) (2 * (at' : Int) + 1) x ∧ x ≠ 2 * (at' : Int) + 1)
        rw [rch_ap (by omega) (by omega), upI2_mem]
        omega⟩
      subst hl5
      obtain ⟨A5, c5, b5, o5, rfl, hr5, _⟩ := hO5.read
      have hlen5 : (upI2 (2 * (at' : Int) + 3) (n - 1 - at')).length = n - 1 - at' := upI2_len _ _
      simp only [hlen5]
      have hd6 := hd5.congr (E' := fun p x => ApE (2 * (n : Int)) p x ∧ (x % 2 = 1 ∧ x < 2 * (at' : Int) + 1 ∨ p % 2 = 0 ∧ 2 * ((0 : Nat) : Int) + 2 ≤ p)) (M := 100) (fun p x => by
        rw [rch_ap (by omega) (by omega)]
        unfold ApE
        omega) (by omega)
      clear hd5 hd0
      have t1 : (((n - 1 - at' : Nat) : Int) != (n : Int) - 1 - at') = false := by simp; omega
      clear hlen5
      have hx51 := hext.trans hx5 (fun _ _ h => h)
      go_wp2_with fail
      go_loopw [11] (fun i wz => ∃ j : Nat, j ≤ n ∧ i = .int .i64 j ∧ DagS wz b1 r11 r12 (fun p x => ApE (2 * (n : Int)) p x ∧ (x % 2 = 1 ∧ x < 2 * (at' : Int) + 1 ∨ p % 2 = 0 ∧ 2 * (j : Int) + 2 ≤ p)) 100 ∧ Ext (fun q => q = r11 ∨ q = r12) w1 wz) (fun i _ => n - (intOf i).toNat)
      case atStart => exact ⟨0, by omega, rfl, hd6, hx51⟩
      case round =>
        obtain ⟨j, hj, rfl, hdj, hextj⟩ := hrel
        by_cases hjlt : j < n
        · go_wp2_with fail
          with_reducible refine (doneS (2 * (j : Int) + 2) hdj (by omega)).mono ?_
          rintro e w7 ⟨v7, g7, l7, rfl, hO7, hs7, _, hd7, hx7, hg7⟩
          obtain ⟨A7, c7, b7, o7, rfl, hr7, _⟩ := hO7.read
          have hd8 := hd7.congr (E' := fun p x => ApE (2 * (n : Int)) p x ∧ (x % 2 = 1 ∧ x < 2 * (at' : Int) + 1 ∨ p % 2 = 0 ∧ 2 * ((j + 1 : Nat) : Int) + 2 ≤ p)) (M := 100) (fun p x => by
            unfold ApE
            omega) (by omega)
          clear hd7 hdj
          by_cases hj1 : j + 1 < n
          · have hl7 : l7 = [2 * (j : Int) + 4] := hs7.unique (m := [2 * (j : Int) + 4]) ⟨by simp, fun x => by
              simp only [List.mem_singleton]
              unfold ApE
              constructor
              · rintro rfl; exact ⟨by omega, fun q hq => by omega⟩
              · rintro ⟨h1, h2⟩; omega⟩
            subst hl7
            have hA : Ext NoB w7 (w7.alloc (.cells #[.int .i64 (2 * (j : Int) + 4)] 3)) := (Ext.refl _ _).alloc _
            have hsr : SlR (w7.alloc (.cells #[.int .i64 (2 * (j : Int) + 4)] 3)) 1 intE (some ⟨w7.heap.size, 0, none⟩) 1 w7.heap.size 0 [2 * (j : Int) + 4] := slR_block (xs := [2 * (j : Int) + 4]) (alloc_at w7 _) rfl (by simp [maxLen])
            have hr7' := hr7.keep hA nb1
            go_wp2_with fail
            have hcall := sameInts_calls A7 (some ⟨w7.heap.size, 0, none⟩) c7 1 b7 o7 w7.heap.size 0 [2 * (j : Int) + 4] [2 * (j : Int) + 4] _ hr7' hsr
            rw [show ([2 * (j : Int) + 4] : List Int).length = 1 from rfl, show decide ([2 * (j : Int) + 4] = [2 * (j : Int) + 4]) = true from by simp] at hcall
            with_reducible refine hcall.mono ?_
            clear hcall
            rintro e w9 ⟨rfl, hx9⟩
            have hd9 := (hd8.keep hA nb nb nb).keep hx9 nb nb nb
            have hext9 := ((hextj.trans hx7 (fun _ _ h => h)).trans hA (fun _ _ h => h.elim)).trans hx9 (fun _ _ h => h.elim)
            go_wp2_with fail
            go_roundw
            case rel =>
              exact ⟨j + 1, by omega, by go_num, hd9, hext9⟩
            case measure => simp [intOf]; omega
          · have hl7 : l7 = [] := hs7.unique (m := []) ⟨List.Pairwise.nil, fun x => by
              simp only [List.not_mem_nil, false_iff]
              unfold ApE
              rintro ⟨h1, h2⟩; omega⟩
            subst hl7
            have hext9 := hextj.trans hx7 (fun _ _ h => h)
            have hjn : (j : Int) + 1 = n := by omega
            go_wp2_with fail
            go_roundw
            case rel => exact ⟨j + 1, by omega, by go_num, hd8, hext9⟩
            case measure => simp [intOf]; omega
        · obtain rfl : j = n := by omega
          go_wp2_with fail
          with_reducible refine (lenS hdj).mono ?_
          rintro e w6 ⟨q, rfl, hq, rfl⟩
          have hq0 : q = ((at' - 1 : Nat) : Int) := by
            rw [hq (upI2 3 (at' - 1)) (lt_nodup (upI2_sorted _ _)) (fun x => by
              rw [upI2_mem]
              unfold ApE
              constructor
              · rintro ⟨h1, h2, h3⟩; exact ⟨x - 2, by omega⟩
              · rintro ⟨p, h1, h2⟩; omega), upI2_len]
          subst hq0
          have hmx : ((at' - 1 : Nat) : Int) = max ((at' : Int) - 1) 0 := by omega
          go_wp2_with fail
          with_reducible refine (awake_calls _).mono ?_
          rintro e w8 ⟨rfl, hx8⟩
          go_wp2_with fail
          go_ret
          exact ⟨rfl, (hx1.trans hextj (fun i hi h => absurd h (by omega))).trans hx8 (fun _ _ h => h)⟩

end Go.Proofs.Ytolihdcfhonfgaa
