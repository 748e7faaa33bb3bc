/- The law DagChains. -/
import Derived.Test.YtolihdcfhonfgaaProg
import Derived.Test.YtolihdcfhonfgaaDagL1
namespace Go.Proofs.Ytolihdcfhonfgaa
open Go.RowKit
set_option linter.unusedSimpArgs false
set_option linter.unusedVariables false

theorem mask_rem (a : Int) (q r : Nat) (hq : 0 < q) (hr : q ≤ 1000 ∧ r ≤ 1000) : ∃ m : Nat, r ≤ m ∧ m < r + q ∧ wrap64 ((bits .and .i64 a 255).tmod (q : Int) + r) = (m : Int) := by
  rw [i64_and255]
  have h1 := Int.emod_nonneg a (show (256 : Int) ≠ 0 by decide)
  rw [Int.tmod_eq_emod_of_nonneg h1]
  have h3 := Int.emod_nonneg (a % 256) (show (q : Int) ≠ 0 by omega)
  have h4 := Int.emod_lt_of_pos (a % 256) (show (0 : Int) < q by omega)
  refine ⟨(a % 256 % q + r).toNat, by omega, by omega, ?_⟩
  unfold wrap64
  omega

/-- A chain from lo to n: each waits for the one ahead. -/
def ChainE (lo n : Int) (p x : Int) : Prop := p = x - 1 ∧ lo ≤ p ∧ x ≤ n
theorem rch_chain {lo n a : Int} (h1 : lo ≤ a) (h2 : a ≤ n) (x : Int) : Rch (ChainE lo n) a x ↔ a ≤ x ∧ x ≤ n := by
  constructor
  · intro h
    induction h with
    | refl => exact ⟨Int.le_refl _, h2⟩
    | step _ he ih => obtain ⟨e1, e2, e3⟩ := he; omega
  · rintro ⟨h3, h4⟩
    obtain ⟨k, rfl⟩ : ∃ k : Nat, x = a + k := ⟨(x - a).toNat, by omega⟩
    clear h3
    induction k with
    | zero => simpa using Rch.refl (E := ChainE lo n)
    | succ k ih => exact .step (ih (by omega)) ⟨by omega, by omega, h4⟩

set_option maxHeartbeats 1000000 in
theorem chains_walk (a0 a1 : Int) (w0 : (Lit.int .i64 a0).wf = true) (w1 : (Lit.int .i64 a1).wf = true) (w : World) :
    Calls Try.prog 6 #[.int .i64 a0, .int .i64 a1] w fun e w' => e = .returned (.bool true) ∧ Ext NoB w w' := by
  obtain ⟨n, hn1, hn2, hn0⟩ := mask_rem a0 100 2 (by omega) (by omega)
  have hn : wrap64 ((bits .and .i64 a0 255).tmod 100 + 2) = (n : Int) := hn0
  obtain ⟨at', ha1, ha2, hat0⟩ := mask_rem a1 n 1 (by omega) (by omega)
  have hat : wrap64 ((bits .and .i64 a1 255).tmod (n : Int) + 1) = (at' : Int) := hat0
  clear hn0 hat0
  have hnz : (n : Int) ≠ 0 := by omega
  go_enter Try.func6, Try.ntmps6
  go_wp2_with fail
  simp only [hn, hat]
  clear hn hat
  have hat2 : at' ≤ n := by omega
  clear ha2
  refine (newS w).mono ?_
  rintro e w1 ⟨b1, r11, r12, rfl, hd1, hx1, hb1, hr11, hr12⟩
  have hl1 := hd1.lt
  have hs1 := hx1.size
  go_wp2_with fail
  go_loopw [6] (fun i wr => ∃ k : Nat, k + 1 ≤ n ∧ i = .int .i64 ((k : Int) + 2) ∧ DagS wr b1 r11 r12 (ChainE 1 ((k : Int) + 1)) k ∧ Ext (fun q => q = r11 ∨ q = r12) w1 wr) (fun i _ => n + 2 - (intOf i).toNat)
  case atStart => exact ⟨0, by omega, rfl, hd1.congr (fun p x => by simp only [false_iff]; rintro ⟨h1, h2, h3⟩; omega) (Nat.le_refl _), Ext.refl _ _⟩
  case round =>
    obtain ⟨k, hk, rfl, hd, hext⟩ := hrel
    by_cases hlt : k + 1 < n
    · have hA : Ext NoB wr (wr.alloc (.cells #[.int .i64 ((k : Int) + 1)] 3)) := (Ext.refl _ _).alloc _
      have hsr : SlR (wr.alloc (.cells #[.int .i64 ((k : Int) + 1)] 3)) 1 intE (some ⟨wr.heap.size, 0, none⟩) 1 wr.heap.size 0 [(k : Int) + 1] := slR_block (xs := [(k : Int) + 1]) (alloc_at wr _) rfl (by simp [maxLen])
      have he2 : (k : Int) + 2 - 1 = (k : Int) + 1 := by omega
      go_wp2_with fail
      have hcall := addS ((k : Int) + 2) _ 1 _ _ [(k : Int) + 1] (hd.keep hA nb nb nb) hsr (by simp; omega) (by omega) (inR_of (by omega) (by omega)) (by intro p hp; simp at hp; omega) (fun p hp => by unfold ChainE at hp; omega)
      rw [show ([(k : Int) + 1] : List Int).length = 1 from rfl] at hcall
      with_reducible refine hcall.mono ?_
      clear hcall
      rintro e w2 ⟨m, rfl, hm, hd2, hx2⟩
      have hm1 : m = 1 := hm [(k : Int) + 1] (by simp) (by simp)
      subst hm1
      clear hm
      go_wp2_with fail
      go_roundw
      case rel =>
        refine ⟨k + 1, by omega, by go_num, hd2.congr (fun p x => ?_) (by simp), (hext.trans hA (fun _ _ h => h.elim)).trans hx2 (fun _ _ h => h)⟩
        unfold ChainE
        simp only [List.mem_singleton]
        omega
      case measure => simp [intOf]; omega
    · have hkn : (k : Int) + 1 = n := by omega
      rw [hkn] at hd
      clear hkn
      go_wp2_with fail
      go_loopw [9] (fun i wz => ∃ j : Nat, j + 1 ≤ at' ∧ i = .int .i64 ((j : Int) + 1) ∧ DagS wz b1 r11 r12 (ChainE ((j : Int) + 1) n) k ∧ Ext (fun q => q = r11 ∨ q = r12) w1 wz) (fun i _ => at' - (intOf i).toNat)
      case atStart => exact ⟨0, by omega, rfl, by simpa using hd, hext⟩
      case round =>
        obtain ⟨j, hj, rfl, hdj, hextj⟩ := hrel
        by_cases hjlt : j + 1 < at'
        · go_wp2_with fail
          with_reducible refine (doneS ((j : Int) + 1) hdj (by omega)).mono ?_
          rintro e w5 ⟨v5, g5, l5, rfl, hO5, hs5, _, hd5, hx5, hg5⟩
          have hl5 : l5 = [(j : Int) + 1 + 1] := hs5.unique (m := [(j : Int) + 1 + 1]) ⟨by simp, fun x => by
            simp only [List.mem_singleton]
            unfold ChainE
            constructor
            · rintro rfl; exact ⟨by omega, fun q hq => by omega⟩
            · rintro ⟨h1, h2⟩; omega⟩
          subst hl5
          obtain ⟨A5, c5, b5, o5, rfl, hr5, _⟩ := hO5.read
          obtain rfl := hr5.addr (by simp)
          have hcell := hr5.intCell 0 (by simp)
          simp only [Nat.add_zero, List.getElem_cons_zero] at hcell
          have t1 : (((j : Int) + 1 + 1) != (j : Int) + 1 + 1) = false := by simp
          go_wp2_with fail
          go_roundw
          case rel =>
            refine ⟨j + 1, by omega, by go_num, hd5.congr (fun p x => ?_) (Nat.le_refl _), hextj.trans hx5 (fun _ _ h => h)⟩
            unfold ChainE
            omega
          case measure => simp [intOf]; omega
        · have hja : (j : Int) + 1 = at' := by omega
          rw [hja] at hdj
          clear hja
          have hszj := hextj.size
          go_wp2_with fail
          with_reducible refine (killS (at' : Int) (inR_of (by omega) (by omega)) hdj (by omega)).mono ?_
          rintro e w5 ⟨v5, g5, l5, rfl, hO5, hs5, _, hd5, hx5, hg5⟩
          have hl5 : l5 = upI ((at' : Int) + 1) (n - at') := hs5.unique ⟨upI_sorted _ _, fun x => by
            show x ∈ upI ((at' : Int) + 1) (n - at') ↔ (Rch (ChainE (at' : Int) n) at' x ∧ x ≠ at')
            rw [rch_chain (by omega) (by omega), upI_mem]
            omega⟩
          subst hl5
          obtain ⟨A5, c5, b5, o5, rfl, hr5, _⟩ := hO5.read
          have hlen5 : (upI ((at' : Int) + 1) (n - at')).length = n - at' := upI_len _ _
          have hle5 := hr5.le
          have hmx5 := hr5.max
          unfold maxLen at hmx5
          rw [hlen5] at hle5
          have hlen5' := Lib.hid hlen5
          have hsub : ((n - at' : Nat) : Int) = (n : Int) - at' := by omega
          simp only [hlen5]
          clear hlen5
          have t1 : (((n - at' : Nat) : Int) != (n : Int) - at') = false := by simp [hsub]
          go_wp2_with fail
          with_reducible refine (lenS hd5).mono ?_
          rintro e w6 ⟨q, rfl, hq, rfl⟩
          have hq0 : q = 0 := hq [] (by simp) (fun x => by
            simp only [List.not_mem_nil, false_iff]
            rintro ⟨p, hp, hr⟩
            rw [rch_chain (by omega) (by omega)] at hr
            unfold ChainE at hp
            omega)
          subst hq0
          go_wp2_with fail
          go_loopw [12] (fun i wz => ∃ m : Nat, m ≤ n - at' ∧ i = .int .i64 m ∧ Ext NoB w5 wz) (fun i _ => n - at' - (intOf i).toNat)
          case atStart => exact ⟨0, Nat.zero_le _, rfl, Ext.refl _ _⟩
          case round =>
            obtain ⟨m, hm, rfl, hextm⟩ := hrel
            by_cases hmn : m < n - at'
            · obtain rfl := hr5.addr (by rw [hlen5'.out]; omega)
              have hcell := (hr5.keep hextm nb1).intCell m (by rw [hlen5'.out]; exact hmn)
              rw [upI_get] at hcell
              have t2 : (((m : Int) + ((at' : Int) + 1)) != (at' : Int) + 1 + m) = false := by simp; omega
              go_wp2_with fail
              go_roundw
              case rel => exact ⟨m + 1, by omega, by go_num, hextm⟩
              case measure => simp [intOf]; omega
            · go_wp2_with fail
              with_reducible refine (awake_calls _).mono ?_
              rintro e w8 ⟨rfl, hx8⟩
              go_wp2_with fail
              go_ret
              exact ⟨rfl, (((hx1.trans hextj (fun i hi h => absurd h (by omega))).trans hx5 (fun i hi h => absurd h (by omega))).trans hextm (fun _ _ h => h)).trans hx8 (fun _ _ h => h)⟩

end Go.Proofs.Ytolihdcfhonfgaa
