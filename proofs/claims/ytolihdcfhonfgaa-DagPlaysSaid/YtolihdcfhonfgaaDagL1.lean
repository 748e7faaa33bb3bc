/- The law DagFans. -/
import Derived.Test.YtolihdcfhonfgaaProg
import Derived.Test.YtolihdcfhonfgaaDagL
import Derived.Test.YtolihdcfhonfgaaBits
namespace Go.Proofs.Ytolihdcfhonfgaa
open Go.RowKit
set_option linter.unusedSimpArgs false
set_option linter.unusedVariables false

/-- a + 0, .. , a + (k - 1). -/
def upI (a : Int) (k : Nat) : List Int := (List.range k).map (fun (j : Nat) => (j : Int) + a)
theorem upI_len (a : Int) (k : Nat) : (upI a k).length = k := by simp [upI]
theorem upI_mem (a : Int) (k : Nat) (x : Int) : x ∈ upI a k ↔ a ≤ x ∧ x < a + k := by
  unfold upI
  simp only [List.mem_map, List.mem_range]
  constructor
  · rintro ⟨j, hj, rfl⟩; omega
  · rintro ⟨h1, h2⟩; exact ⟨(x - a).toNat, by omega, by omega⟩
theorem upI_succ (a : Int) (k : Nat) : upI a (k + 1) = upI a k ++ [(k : Int) + a] := by simp [upI, List.range_succ]
theorem upI_sorted (a : Int) (k : Nat) : (upI a k).Pairwise (· < ·) := by
  unfold upI
  rw [List.pairwise_map]
  exact (List.pairwise_lt_range (n := k)).imp (fun h => by omega)
theorem upI_get (a : Int) (k j : Nat) (h : j < (upI a k).length) : (upI a k)[j] = (j : Int) + a := by simp [upI]

theorem mask60 (a : Int) : ∃ m : Nat, 1 ≤ m ∧ m ≤ 60 ∧ wrap64 ((bits .and .i64 a 255).tmod 60 + 1) = (m : Int) := by
  rw [i64_and255]
  have h1 := Int.emod_nonneg a (show (256 : Int) ≠ 0 by decide)
  have h2 := Int.emod_lt_of_pos a (show (0 : Int) < 256 by decide)
  rw [Int.tmod_eq_emod_of_nonneg h1]
  refine ⟨(a % 256 % 60 + 1).toNat, by omega, by omega, ?_⟩
  unfold wrap64
  omega

theorem mask255 (a : Int) : ∃ t : Nat, t ≤ 255 ∧ bits .and .i64 a 255 = (t : Int) := by
  rw [i64_and255]
  have h1 := Int.emod_nonneg a (show (256 : Int) ≠ 0 by decide)
  have h2 := Int.emod_lt_of_pos a (show (0 : Int) < 256 by decide)
  exact ⟨(a % 256).toNat, by omega, by omega⟩

/-- The turned places. -/
def pos (k t j : Nat) : Int := ((j : Int) + t) % k + 1
theorem pos_range {k t j : Nat} (hk : 1 ≤ k) : 1 ≤ pos k t j ∧ pos k t j ≤ k := by
  unfold pos
  have h1 := Int.emod_nonneg ((j : Int) + t) (show (k : Int) ≠ 0 by omega)
  have h2 := Int.emod_lt_of_pos ((j : Int) + t) (show (0 : Int) < k by omega)
  omega
theorem pos_nat (k t j : Nat) : pos k t j = (((j + t) % k : Nat) : Int) + 1 := by unfold pos; push_cast; rfl
theorem pos_inj {k t i j : Nat} (hi : i < k) (hj : j < k) (h : pos k t i = pos k t j) : i = j := by
  rw [pos_nat, pos_nat] at h
  have h1 : (i + t) % k = (j + t) % k := by omega
  have h2 := Nat.div_add_mod (i + t) k
  have h3 := Nat.div_add_mod (j + t) k
  rcases Nat.lt_trichotomy i j with hlt | he | hlt
  · exfalso
    have h4 : (i + t) / k ≤ (j + t) / k := Nat.div_le_div_right (by omega)
    have h5 : (j + t) / k ≤ (i + t) / k := by
      refine Classical.byContradiction fun hc => ?_
      have h6 : (i + t) / k + 1 ≤ (j + t) / k := by omega
      have h7 := Nat.mul_le_mul_left k h6
      rw [Nat.mul_add] at h7
      omega
    have h6 : (i + t) / k = (j + t) / k := by omega
    rw [h6] at h2
    omega
  · exact he
  · exfalso
    have h4 : (j + t) / k ≤ (i + t) / k := Nat.div_le_div_right (by omega)
    have h5 : (i + t) / k ≤ (j + t) / k := by
      refine Classical.byContradiction fun hc => ?_
      have h6 : (j + t) / k + 1 ≤ (i + t) / k := by omega
      have h7 := Nat.mul_le_mul_left k h6
      rw [Nat.mul_add] at h7
      omega
    have h6 : (i + t) / k = (j + t) / k := by omega
    rw [h6] at h2
    omega
/-- Every place is come to. -/
theorem pos_all {k t : Nat} {p : Int} (h1 : 1 ≤ p) (h2 : p ≤ k) : ∃ j, j < k ∧ pos k t j = p := by
  have hn : ((List.range k).map (pos k t)).Nodup := by
    rw [List.nodup_iff_pairwise_ne, List.pairwise_map]
    refine (List.nodup_iff_pairwise_ne.1 List.nodup_range).imp_of_mem ?_
    intro a b ha hb hne e
    exact hne (pos_inj (List.mem_range.1 ha) (List.mem_range.1 hb) e)
  refine Classical.byContradiction fun hc => ?_
  have hn2 : (p :: (List.range k).map (pos k t)).Nodup := by
    rw [List.nodup_cons]
    refine ⟨fun hm => ?_, hn⟩
    obtain ⟨j, hj, he⟩ := List.mem_map.1 hm
    exact hc ⟨j, List.mem_range.1 hj, he⟩
  have := nodup_sub_length _ (upI 1 k) hn2 (fun x hx => by
    rw [upI_mem]
    rcases List.mem_cons.1 hx with rfl | hx
    · omega
    · obtain ⟨j, hj, rfl⟩ := List.mem_map.1 hx
      have := pos_range (k := k) (t := t) (j := j) (by omega)
      omega)
  simp [upI_len] at this
  omega

set_option maxHeartbeats 1000000 in
theorem fans_walk (a0 a1 : Int) (w0 : (Lit.int .i64 a0).wf = true) (w1 : (Lit.int .i64 a1).wf = true) (w : World) :
    Calls Try.prog 3 #[.int .i64 a0, .int .i64 a1] w fun e w' => e = .returned (.bool true) ∧ Ext NoB w w' := by
  obtain ⟨m, hm1, hm2, hm⟩ := mask60 a0
  obtain ⟨t, ht, hbits⟩ := mask255 a1
  have hbits' := Lib.hid hbits
  clear hbits
  go_enter Try.func3, Try.ntmps3
  go_wp2_with fail
  simp only [hm]
  clear hm
  refine (newS w).mono ?_
  rintro e w1 ⟨b1, r11, r12, rfl, hd1, hx1, hb1, hr11, hr12⟩
  go_wp2_with fail
  refine (newS w1).mono ?_
  rintro e w2 ⟨b2, r21, r22, rfl, hf2, hx2, hb2, hr21, hr22⟩
  have hl1 := hd1.lt
  have hl2 := hf2.lt
  have hs1 := hx1.size
  have hs2 := hx2.size
  have hd2 := hd1.keep hx2 nb nb nb
  have hx02 := hx1.trans hx2 (fun _ _ h => h)
  go_wp2_with fail
  go_loopw [7, 8] (fun pv i wr => ∃ (k : Nat) (g : Option Nat), k ≤ m ∧ i = .int .i64 ((k : Int) + 1) ∧ SlO wr 3 1 intE g pv (upI 1 k) ∧ DagS wr b2 r21 r22 (fun p x => p = 1 ∧ 2 ≤ x ∧ x < 2 + k) k ∧ Ext (fun q => q = r21 ∨ q = r22) w2 wr ∧ (∀ q, g = some q → w2.heap.size ≤ q)) (fun _ i _ => m + 1 - (intOf i).toNat)
  case atStart => exact ⟨0, none, Nat.zero_le _, rfl, SlO.nil _ _ _ _, hf2.congr (fun p x => by simp only [false_iff]; omega) (Nat.le_refl _), Ext.refl _ _, by simp⟩
  case round =>
    obtain ⟨k, g, hk, rfl, hO, hf, hext, hg⟩ := hrel
    by_cases hlt : k < m
    · have hcap1 : ((upI 1 k).length + 1) * 8 ≤ 140737488355328 := by rw [upI_len]; omega
      have hcap2 : (upI 1 k).length + 1 ≤ maxLen := by rw [upI_len]; unfold maxLen; omega
      go_wp2_with (at_builtin; go_loud (refine wpList_appendO (ys := [(k : Int) + 1]) rfl rfl elem_int intE_len intE_one (hO.keep ((Ext.refl NoB _).alloc _) (fun _ _ => nb)) rfl (SlR.one' (alloc_at' _ _ _ (by simp)) rfl) rfl rfl hcap1 hcap2 (fun v' w3 g' hO' hx3 hg' => ?_)))
      have hA0 : Ext NoB wr (wr.alloc (.cells #[.int .i64 ((k : Int) + 1)] 3)) := (Ext.refl _ _).alloc _
      have hA : Ext NoB w3 (w3.alloc (.cells #[.int .i64 1] 3)) := (Ext.refl _ _).alloc _
      have hsz := hext.size
      have hf3 := ((hf.keep hA0 nb nb nb).keep hx3 (fun e => absurd (hg _ e) (by omega)) (fun e => absurd (hg _ e) (by omega)) (fun e => absurd (hg _ e) (by omega))).keep hA nb nb nb
      have hsr : SlR (w3.alloc (.cells #[.int .i64 1] 3)) 1 intE (some ⟨w3.heap.size, 0, none⟩) 1 w3.heap.size 0 [1] := slR_block (xs := [1]) (alloc_at w3 _) rfl (by simp [maxLen])
      have hext3 : Ext (fun q => q = r21 ∨ q = r22) w2 (w3.alloc (.cells #[.int .i64 1] 3)) := ((hext.trans hA0 (fun _ _ h => h.elim)).trans hx3 (fun i hi e => absurd (hg i e) (by omega))).trans hA (fun _ _ h => h.elim)
      have hgn : ∀ q, g' = some q → w2.heap.size ≤ q := fun q hq => by
        rcases hg' with rfl | rfl
        · exact hg q hq
        · simp only [Option.some.injEq] at hq
          simp at hq
          omega
      refine (addS ((k : Int) + 1 + 1) _ 1 _ _ [1] hf3 hsr (by simp; omega) (by omega) (inR_of (by omega) (by omega)) (by intro p hp; simp at hp; omega) (fun p hp => by omega)).mono ?_
      rintro e w4 ⟨n, rfl, hn, hf4, hx4⟩
      have hn1 : n = 1 := hn [1] (by simp) (by simp)
      subst hn1
      clear hn
      go_wp2_with fail
      go_roundw
      case rel =>
        refine ⟨k + 1, g', by omega, by go_num, ?_, hf4.congr (fun p x => ?_) (by simp), hext3.trans hx4 (fun _ _ h => h), hgn⟩
        · rw [upI_succ]
          exact (hO'.keep hA (fun _ _ => nb)).keep hx4 (fun q hq e => by have := hgn q hq; omega)
        · simp only [List.mem_singleton]
          omega
      case measure => simp [intOf]; omega
    · obtain rfl : k = m := by omega
      obtain ⟨A, c, b0, o0, rfl, hsr, hgb⟩ := hO.read
      have hcap1 : ((upI 1 k).length + (upI 1 k).length) * 8 ≤ 140737488355328 := by rw [upI_len]; omega
      have hcap2 : (upI 1 k).length + (upI 1 k).length ≤ maxLen := by rw [upI_len]; unfold maxLen; omega
      have hsz := hext.size
      have hd3 := hd2.keep hext (by omega) (by omega) (by omega)
      go_wp2_with (at_builtin; go_loud (refine wpList_appendO (ys := upI 1 k) rfl rfl elem_int intE_len intE_one hO rfl hsr rfl rfl hcap1 hcap2 (fun v' w3 g' hO' hx3 hg' => ?_)))
      have hgk : ∀ i, i < w2.heap.size → ¬ g = some i := fun i hi e => absurd (hg i e) (by omega)
      obtain ⟨A', c', b', o', rfl, hsr', _⟩ := hO'.read
      have hlen2 : (upI 1 k ++ upI 1 k).length = k + k := by rw [List.length_append, upI_len]
      refine (addS ((k : Int) + 1) _ c' _ _ (upI 1 k ++ upI 1 k) (hd3.keep hx3 (hgk _ (by omega)) (hgk _ (by omega)) (hgk _ (by omega))) hsr' (by rw [hlen2]; omega) (by omega) (inR_of (by omega) (by omega)) (by intro p hp; rw [List.mem_append, or_self, upI_mem] at hp; omega) (fun p hp => hp)).mono ?_
      rintro e w4 ⟨n, rfl, hn, hd4, hx4⟩
      have hnk : n = k := by
        have := hn (upI 1 k) (lt_nodup (upI_sorted 1 k)) (by intro p; rw [List.mem_append, or_self])
        rw [upI_len] at this; exact this
      subst hnk
      clear hn
      have hf4 : DagS w4 b2 r21 r22 (fun p x => p = 1 ∧ 2 ≤ x ∧ x < 2 + k) k := (hf.keep hx3 (hgk _ (by omega)) (hgk _ (by omega)) (hgk _ (by omega))).keep hx4 (by omega) (by omega) (by omega)
      have hd4' : DagS w4 b1 r11 r12 (fun p x => (1 ≤ p ∧ p ≤ k) ∧ x = (k : Int) + 1 ∧ ∀ j, j < 0 → p ≠ pos k t j) (k + k) := hd4.congr (fun p x => by rw [List.mem_append, or_self, upI_mem]; simp; omega) (by rw [hlen2]; omega)
      have hext4 : Ext NoB w w4 := ((hx02.trans hext (fun i hi h => absurd h (by omega))).trans hx3 (fun i hi h => absurd h (hgk i (by omega)))).trans hx4 (fun i hi h => absurd h (by omega))
      have hk1 : (1 : Int) ≤ k := by omega
      have hk60 : (k : Int) ≤ 60 := by omega
      have hneq : ((k : Int) != k) = false := by simp
      clear hd4 hx4 hx3 hsr' hsr hgb hcap1 hcap2 hext hd3 hf hd1 hd2 hf2 hgk hg' hO' hO
      go_wp2_with fail
      go_loopw [13] (fun i wr => ∃ j : Nat, j ≤ k ∧ i = .int .i64 j ∧ DagS wr b1 r11 r12 (fun p x => (1 ≤ p ∧ p ≤ k) ∧ x = (k : Int) + 1 ∧ ∀ j', j' < j → p ≠ pos k t j') (k + k) ∧ Ext (fun q => q = r11 ∨ q = r12) w4 wr) (fun i _ => k - (intOf i).toNat)
      case atStart => exact ⟨0, Nat.zero_le _, rfl, hd4', Ext.refl _ _⟩
      case round =>
        obtain ⟨j, hj, rfl, hdj, hextj⟩ := hrel
        by_cases hjk : j < k
        · have hbits := hbits'.out
          have hpr := pos_range (k := k) (t := t) (j := j) hm1
          have hwp : wrap64 (((j : Int) + t) % k + 1) = pos k t j := by
            have h := hpr
            unfold pos at h ⊢
            unfold wrap64
            omega
          go_wp2_with fail
          with_reducible refine (doneS (pos k t j) hdj (by omega)).mono ?_
          rintro e w5 ⟨v5, g5, l5, rfl, hO5, hs5, _, hd5, hx5, hg5⟩
          have hd5' : DagS w5 b1 r11 r12 (fun p x => (1 ≤ p ∧ p ≤ k) ∧ x = (k : Int) + 1 ∧ ∀ j', j' < j + 1 → p ≠ pos k t j') (k + k) := hd5.congr (fun p x => by
            constructor
            · rintro ⟨⟨h1, h2, h3⟩, h4⟩
              refine ⟨h1, h2, fun j' hj' => ?_⟩
              by_cases e : j' = j
              · subst e; exact h4
              · exact h3 j' (by omega)
            · rintro ⟨h1, h2, h3⟩
              exact ⟨⟨h1, h2, fun j' hj' => h3 j' (by omega)⟩, h3 j (by omega)⟩) (Nat.le_refl _)
          by_cases hj1 : j + 1 < k
          · have hl5 : l5 = [] := hs5.unique (m := []) ⟨List.Pairwise.nil, fun x => by
              simp only [List.not_mem_nil, false_iff]
              rintro ⟨⟨h1, h2, h3⟩, h4⟩
              have hp2 := pos_range (k := k) (t := t) (j := j + 1) hm1
              have := h4 (pos k t (j + 1)) ⟨hp2, h2, fun j' hj' e => by
                have := pos_inj (by omega) (by omega) e
                omega⟩
              have := pos_inj (i := j + 1) (j := j) (by omega) (by omega) this
              omega⟩
            subst hl5
            obtain ⟨A5, c5, b5, o5, rfl, hr5, _⟩ := hO5.read
            have t1 : decide ((j : Int) + 1 < k) = true := by simp; omega
            have t2 : (((j : Int) + 1) == k) = false := by simp; omega
            go_wp2_with fail
            go_roundw
            case rel => exact ⟨j + 1, by omega, by go_num, hd5', hextj.trans hx5 (fun _ _ h => h)⟩
            case measure => simp [intOf]; omega
          · have hl5 : l5 = [(k : Int) + 1] := hs5.unique (m := [(k : Int) + 1]) ⟨by simp, fun x => by
              simp only [List.mem_singleton]
              constructor
              · rintro rfl
                refine ⟨⟨hpr, rfl, fun j' hj' e => ?_⟩, fun q hq => ?_⟩
                · have := pos_inj (by omega) (by omega) e
                  omega
                · obtain ⟨j', hj', he⟩ := pos_all (t := t) hq.1.1 hq.1.2
                  by_cases e : j' = j
                  · subst e; exact he.symm
                  · exact absurd he.symm (hq.2.2 j' (by omega))
              · rintro ⟨⟨h1, h2, h3⟩, h4⟩
                exact h2⟩
            subst hl5
            obtain ⟨A5, c5, b5, o5, rfl, hr5, _⟩ := hO5.read
            have t1 : decide ((j : Int) + 1 < k) = false := by simp; omega
            have t2 : (((j : Int) + 1) == k) = true := by simp; omega
            have hsr : SlR (w5.alloc (.cells #[.int .i64 ((k : Int) + 1)] 3)) 1 intE (some ⟨w5.heap.size, 0, none⟩) 1 w5.heap.size 0 [(k : Int) + 1] := slR_block (xs := [(k : Int) + 1]) (alloc_at w5 _) rfl (by simp [maxLen])
            have hA : Ext NoB w5 (w5.alloc (.cells #[.int .i64 ((k : Int) + 1)] 3)) := (Ext.refl _ _).alloc _
            go_wp2_with fail
            refine (sameInts_calls _ _ _ _ _ _ _ _ [(k : Int) + 1] [(k : Int) + 1] _ (hr5.keep hA nb1) hsr).mono ?_
            rintro e w6 ⟨rfl, hx6⟩
            rw [decide_eq_true (p := [(k : Int) + 1] = [(k : Int) + 1]) rfl]
            go_wp2_with fail
            go_roundw
            case rel => exact ⟨j + 1, by omega, by go_num, (hd5'.keep hA nb nb nb).keep hx6 nb nb nb, ((hextj.trans hx5 (fun _ _ h => h)).trans hA (fun _ _ h => h.elim)).trans hx6 (fun _ _ h => h.elim)⟩
            case measure => simp [intOf]; omega
        · obtain rfl : j = k := by omega
          have hl4 := hd4'.lt
          have hfj := hf4.keep hextj (by omega) (by omega) (by omega)
          have hsz4 := hext4.size
          have hszj := hextj.size
          go_wp2_with fail
          with_reducible refine (doneS 1 hfj (by omega)).mono ?_
          rintro e w5 ⟨v5, g5, l5, rfl, hO5, hs5, _, hf5, hx5, hg5⟩
          have hl5 : l5 = upI 2 j := hs5.unique (m := upI 2 j) ⟨upI_sorted 2 j, fun x => by
            rw [upI_mem]
            constructor
            · intro h; exact ⟨⟨rfl, h⟩, fun q hq => hq.1⟩
            · rintro ⟨⟨_, h⟩, _⟩; exact h⟩
          subst hl5
          obtain ⟨A5, c5, b5, o5, rfl, hr5, _⟩ := hO5.read
          have hlen5 : (upI 2 j).length = j := upI_len 2 j
          have hd5 := hdj.keep hx5 (by omega) (by omega) (by omega)
          have hle5 := hr5.le
          have hmx5 := hr5.max
          unfold maxLen at hmx5
          rw [hlen5] at hle5
          have hlen5' := Lib.hid hlen5
          simp only [hlen5]
          clear hlen5
          go_wp2_with fail
          go_loopw [16] (fun i wz => ∃ n : Nat, n ≤ j ∧ i = .int .i64 n ∧ Ext NoB w5 wz) (fun i _ => j - (intOf i).toNat)
          case atStart => exact ⟨0, Nat.zero_le _, rfl, Ext.refl _ _⟩
          case round =>
            obtain ⟨n, hn, rfl, hextn⟩ := hrel
            by_cases hnj : n < j
            · obtain rfl := hr5.addr (by rw [hlen5'.out]; omega)
              have hcell := (hr5.keep hextn nb1).intCell n (by rw [hlen5'.out]; exact hnj)
              rw [upI_get] at hcell
              have t1 : (((n : Int) + 2) != (n : Int) + 2) = false := by simp
              go_wp2_with fail
              go_roundw
              case rel => exact ⟨n + 1, by omega, by go_num, hextn⟩
              case measure => simp [intOf]; omega
            · obtain rfl : n = j := by omega
              have hfz := hf5.keep hextn nb nb nb
              have hdz := hd5.keep hextn nb nb nb
              have t1 : ((n : Int) == n) = true := by simp
              go_wp2_with fail
              with_reducible refine (lenS hfz).mono ?_
              rintro e w6 ⟨q, rfl, hq, rfl⟩
              have hq0 : q = 0 := hq [] (by simp) (fun x => by
                simp only [List.not_mem_nil, false_iff]
                rintro ⟨p, hp⟩
                exact hp.2 hp.1.1)
              subst hq0
              go_wp2_with fail
              with_reducible refine (lenS hdz).mono ?_
              rintro e w7 ⟨q, rfl, hq', rfl⟩
              have hq0 : q = 0 := hq' [] (by simp) (fun x => by
                simp only [List.not_mem_nil, false_iff]
                rintro ⟨p, hp⟩
                obtain ⟨j', hj', he⟩ := pos_all (t := t) hp.1.1 hp.1.2
                exact hp.2.2 j' hj' he.symm)
              subst hq0
              go_wp2_with fail
              with_reducible refine (awake_calls _).mono ?_
              rintro e w8 ⟨rfl, hx8⟩
              go_wp2_with fail
              go_ret
              exact ⟨rfl, (((hext4.trans hextj (fun i hi h => absurd h (by omega))).trans hx5 (fun i hi h => absurd h (by omega))).trans hextn (fun _ _ h => h)).trans hx8 (fun _ _ h => h)⟩

end Go.Proofs.Ytolihdcfhonfgaa
