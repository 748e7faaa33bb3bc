/- The law DagOnce: the walk. -/
import Derived.Test.YtolihdcfhonfgaaProg
import Derived.Test.YtolihdcfhonfgaaDagO3
namespace Go.Proofs.Ytolihdcfhonfgaa
open Go.RowKit
set_option linter.unusedSimpArgs false
set_option linter.unusedVariables false

theorem gen_then {N : Act → World → Prop} {Q : Exit → Act → World → Prop} {e : Exit} {a : Act} {w : World} {n : Nat} (h : ∀ wz, Ext NoB w wz → Exit.then N Q e a wz) : Exit.then N Q e a (w.drewN n) :=
  h _ ((Ext.refl _ _).drewN _)

theorem take_lt {l : List Int} (h : l.Pairwise (· < ·)) {t : Nat} (ht : t < l.length) : ∀ x, x ∈ l.take t → x < l[t] := by
  intro x hx
  obtain ⟨j, hj, rfl⟩ := List.mem_iff_getElem.1 hx
  rw [List.length_take] at hj
  rw [List.getElem_take]
  exact List.pairwise_iff_getElem.1 h j t (by omega) ht (by omega)

theorem has_calls (A : Option Addr) (c b o : Nat) (xs : List Int) (n : Int) (w : World) (hx : SlR w 1 intE A c b o xs) :
    Calls Try.prog 15 #[.slice A xs.length c, .int .i64 n] w fun e w' => e = .returned (.bool (decide (n ∈ xs))) ∧ w' = w := by
  have h1 := hx.le
  have h2 := hx.max
  unfold maxLen at h2
  go_enter Try.func15, Try.ntmps15
  go_wp2_with fail
  go_loop [5] (fun i => ∃ k : Nat, k ≤ xs.length ∧ i = .int .i64 k ∧ Hid (∀ j (h : j < xs.length), j < k → xs[j] ≠ n)) (fun i => xs.length - (intOf i).toNat)
  case atStart => exact ⟨0, Nat.zero_le _, rfl, fun j h hj => absurd hj (Nat.not_lt_zero _)⟩
  case round =>
    obtain ⟨k, hk, rfl, hno⟩ := hrel
    by_cases hlt : k < xs.length
    · obtain rfl := hx.addr (by omega)
      have c1 := hx.intCell k hlt
      have hv : Hid (xs[k] ∈ xs) := List.getElem_mem hlt
      have hv2 : Hid (∀ j (h : j < xs.length), j < k + 1 → xs[k] ≠ n → xs[j] ≠ n) := fun j h hj hne => by
        by_cases hjk : j = k
        · subst hjk; exact hne
        · exact hno.out j h (by omega)
      generalize xs[k] = u at *
      by_cases hun : u = n
      · subst hun
        have hf : Hid (decide (u ∈ xs) = true) := by show _ = _; rw [decide_eq_true_iff]; exact hv.out
        go_wp2_with fail
        go_ret
        exact ⟨by rw [hf.out]; rfl, rfl⟩
      · have t1 : (u == n) = false := by simp [hun]
        go_wp2_with fail
        go_round
        case rel => exact ⟨k + 1, by omega, by go_num, fun j h hj => hv2.out j h hj hun⟩
        case measure => simp [intOf]; omega
    · have hf : Hid (decide (n ∈ xs) = false) := by
        show _ = _
        rw [decide_eq_false_iff_not]
        intro hm
        obtain ⟨j, hj, rfl⟩ := List.mem_iff_getElem.1 hm
        exact hno.out j hj (by omega) rfl
      go_wp2_with fail
      go_ret
      exact ⟨by rw [hf.out]; rfl, rfl⟩

set_option maxRecDepth 20000 in
set_option maxHeartbeats 8000000 in
theorem once_walk (A : Option Addr) (c b o : Nat) (xs : List Int) (a1 : Int) (w1 : (Lit.int .i64 a1).wf = true) (w : World) (hx : SlR w 1 intE A c b o xs) :
    Calls Try.prog 5 #[.slice A xs.length c, .int .i64 a1] w fun e w' => e = .returned (.bool true) ∧ Ext NoB w w' := by
  have hxl := hx.le
  have hxm := hx.max
  unfold maxLen at hxm
  obtain ⟨n, hn24, hnx, hn⟩ : ∃ n : Nat, n ≤ 24 ∧ n ≤ xs.length ∧ min (xs.length : Int) 24 = (n : Int) := ⟨min xs.length 24, by omega, by omega, by omega⟩
  go_enter Try.func5, Try.ntmps5
  go_wp2_with fail
  refine (newS w).mono ?_
  rintro e w1 ⟨b1, r11, r12, rfl, hd1, hx1, hb1, hr11, hr12⟩
  have hl1 := hd1.lt
  have hs1 := hx1.size
  generalize hWW : onL xs = W
  have hx11 : Ext NoB w1 _ := ((Ext.refl NoB w1).alloc (.cells (Array.replicate 26 (Value.int .i64 0)) 33)).alloc (.cells (Array.replicate 26 (Value.slice none 0 0)) 34)
  have hst0 : Ar ((w1.alloc (.cells (Array.replicate 26 (Value.int .i64 0)) 33)).alloc (.cells (Array.replicate 26 (Value.slice none 0 0)) 34)) w1.heap.size 26 (fun _ => .int .i64 0) :=
    (Ar.block (alloc_at w1 _) (fun j hj => by simp [hj])).keep ((Ext.refl NoB _).alloc _) nb
  have hwn0 : ArS ((w1.alloc (.cells (Array.replicate 26 (Value.int .i64 0)) 33)).alloc (.cells (Array.replicate 26 (Value.slice none 0 0)) 34)) (w1.heap.size + 1) 26 (fun _ => []) :=
    ⟨fun _ => .slice none 0 0, Ar.block (alloc_at' _ _ _ (by simp)) (fun j hj => by simp [hj]), fun j hj => ⟨none, 0, 0, 0, rfl, ⟨by simp, by simp, by simp [maxLen], by intro j u hu; simp at hu⟩, by simp⟩⟩
  simp only [show Array.replicate 26 (Value.int .i64 0) = #[.int .i64 0, .int .i64 0, .int .i64 0, .int .i64 0, .int .i64 0, .int .i64 0, .int .i64 0, .int .i64 0, .int .i64 0, .int .i64 0, .int .i64 0, .int .i64 0, .int .i64 0, .int .i64 0, .int .i64 0, .int .i64 0, .int .i64 0, .int .i64 0, .int .i64 0, .int .i64 0, .int .i64 0, .int .i64 0, .int .i64 0, .int .i64 0, .int .i64 0, .int .i64 0] from rfl,
    show Array.replicate 26 (Value.slice none 0 0) = #[.slice none 0 0, .slice none 0 0, .slice none 0 0, .slice none 0 0, .slice none 0 0, .slice none 0 0, .slice none 0 0, .slice none 0 0, .slice none 0 0, .slice none 0 0, .slice none 0 0, .slice none 0 0, .slice none 0 0, .slice none 0 0, .slice none 0 0, .slice none 0 0, .slice none 0 0, .slice none 0 0, .slice none 0 0, .slice none 0 0, .slice none 0 0, .slice none 0 0, .slice none 0 0, .slice none 0 0, .slice none 0 0, .slice none 0 0] from rfl] at hx11 hst0 hwn0
  have hnil0 : ∀ j, j < 26 → ((w1.alloc (.cells #[.int .i64 0, .int .i64 0, .int .i64 0, .int .i64 0, .int .i64 0, .int .i64 0, .int .i64 0, .int .i64 0, .int .i64 0, .int .i64 0, .int .i64 0, .int .i64 0, .int .i64 0, .int .i64 0, .int .i64 0, .int .i64 0, .int .i64 0, .int .i64 0, .int .i64 0, .int .i64 0, .int .i64 0, .int .i64 0, .int .i64 0, .int .i64 0, .int .i64 0, .int .i64 0] 33)).alloc (.cells #[.slice none 0 0, .slice none 0 0, .slice none 0 0, .slice none 0 0, .slice none 0 0, .slice none 0 0, .slice none 0 0, .slice none 0 0, .slice none 0 0, .slice none 0 0, .slice none 0 0, .slice none 0 0, .slice none 0 0, .slice none 0 0, .slice none 0 0, .slice none 0 0, .slice none 0 0, .slice none 0 0, .slice none 0 0, .slice none 0 0, .slice none 0 0, .slice none 0 0, .slice none 0 0, .slice none 0 0, .slice none 0 0, .slice none 0 0] 34)).cell? ⟨w1.heap.size + 1, j, none⟩ = some (.slice none 0 0) := fun j hj => by
    obtain ⟨V, hV, hVs⟩ := hwn0
    rw [(Ar.block (f := fun _ => .slice none 0 0) (alloc_at' _ _ _ (by simp)) (fun j hj => by
      have : (Array.replicate 26 (Value.slice none 0 0))[j]? = some (.slice none 0 0) := by simp [hj]
      exact this) j hj).1]
  have hd0 := hd1.keep hx11 nb nb nb
  generalize hbs : w1.heap.size = bs at *
  obtain ⟨bw, hbw⟩ : ∃ bw, bs + 1 = bw := ⟨_, rfl⟩
  rw [hbw] at hwn0 hnil0
  have hblt : 0 < xs.length → b < w.heap.size := fun hp => World.block_lt_of_cell? w ⟨b, o + 0, none⟩ (hx.intCell 0 hp)
  go_wp2_with fail
  go_loopw [9] (fun i wr => ∃ k : Nat, k ≤ n ∧ i = .int .i64 ((k : Int) + 1) ∧ Ar wr bs 26 (fun j => .int .i64 (onS W k j)) ∧ ArS wr bw 26 (onW W k) ∧ (∀ j, k < j → j < 26 → wr.cell? ⟨bw, j, none⟩ = some (.slice none 0 0)) ∧ DagS wr b1 r11 r12 (OnE W k) (24 * k) ∧ Ext (fun q => q = r11 ∨ q = r12 ∨ q = bs ∨ q = bw) w1 wr) (fun i _ => n + 2 - (intOf i).toNat)
  case atStart => 
    refine ⟨0, Nat.zero_le _, rfl, fun j hj => ?_, hwn0.congr (fun j hj => ?_), fun j _ hj => hnil0 j hj, hd0.congr (fun p x => ?_) (Nat.zero_le _), hx11.mono (fun _ _ h => h.elim)⟩
    · have h0 : onS W 0 j = 0 := by unfold onS; rw [if_neg (by omega)]
      simp only [h0]
      exact hst0 j hj
    · unfold onW
      rw [if_neg (by omega)]
    · unfold OnE
      simp only [false_iff]
      omega
  case round =>
    obtain ⟨k, hk, rfl, hst, hwn, hnil, hd, hext⟩ := hrel
    by_cases hlt : k < n
    · have hdt : decide ((k : Int) + 1 ≤ n) = true := by simp; omega
      generalize wr = wo at *
      obtain ⟨V, hV, hVs⟩ := hwn
      have hszo := hext.size
      have hbwo : bw < wo.heap.size := World.block_lt_of_cell? wo ⟨bw, 0, none⟩ (hV 0 (by omega)).1
      have hxk0 : k < xs.length := by omega
      have he1 : (k : Int) + 1 - 1 = k := by omega
      have hVn : ∀ j, k < j → j < 26 → V j = .slice none 0 0 := fun j h1 h2 => Option.some.inj ((hV j h2).1.symm.trans (hnil j h1 h2))
      have hVk := hVn (k + 1) (by omega) (by omega)
      clear hnil
      have hVk' := Lib.hid hVk
      clear hVk
      go_wp2_with fail
      go_loopw [10] (fun i wr => ∃ (m : Nat) (v : Value) (g : Option Nat), 1 ≤ m ∧ m ≤ k + 1 ∧ i = .int .i64 m ∧ Ar wr bw 26 (fun j => if j = k + 1 then v else V j) ∧ SlO wr 3 1 intE g v (wl (bitAt xs k) m) ∧ (∀ q, g = some q → wo.heap.size ≤ q) ∧ Ext (fun q => q = bw) wo wr) (fun i _ => k + 1 - (intOf i).toNat)
      case atStart =>
        refine ⟨1, .slice none 0 0, none, Nat.le_refl _, by omega, rfl, hV.congr (fun j hj => ?_), ?_, by simp, Ext.refl _ _⟩
        · split
          · rename_i h; rw [h]; exact hVk'.out
          · rfl
        · rw [wl_one]; exact SlO.nil _ _ _ _
      case round =>
        obtain ⟨m, v, g, hm1, hmk, rfl, hVm, hO, hg, hxm'⟩ := hrel
        have hcv : wr.cell? ⟨bw, k + 1, none⟩ = some v := (hVm (k + 1) (by omega)).1.trans (congrArg some (if_pos rfl))
        have hlen := wl_len (bitAt xs k) m
        by_cases hmlt : m < k + 1
        · obtain rfl := hx.addr (by omega)
          have hck := (((hx.keep hx1 nb1).keep hext (fun hp => by have := hblt hp; omega)).keep hxm' (fun hp => by have := hblt hp; omega)).intCell k hxk0
          have hdt2 : decide ((m : Int) < (k : Int) + 1) = true := by simp; omega
          have hbit : (bits .and .i64 (xs[k] / 2 ^ m) 1 == 1) = bitAt xs k m := by unfold bitAt; rw [List.getElem?_eq_getElem hxk0]; rfl
          have hwls := Lib.hid (wl_succ (bitAt xs k) m hm1)
          cases hb : bitAt xs k m
          · rw [hb] at hbit
            go_wp2_with fail
            go_roundw
            case rel => exact ⟨m + 1, v, g, by omega, by omega, by go_num, hVm, by rw [hwls.out, hb]; simpa using hO, hg, hxm'⟩
            case measure => simp [intOf]; omega
          · rw [hb] at hbit
            have hb' := Lib.hid hb
            clear hb
            have hcap1 : ((wl (bitAt xs k) m).length + 1) * 8 ≤ 140737488355328 := by omega
            have hcap2 : (wl (bitAt xs k) m).length + 1 ≤ maxLen := by unfold maxLen; omega
            have hA0 : Ext NoB wr (wr.alloc (.cells #[.int .i64 (m : Int)] 3)) := (Ext.refl _ _).alloc _
            have hV2 := hVm.keep hA0 nb
            have hnbw : ∀ e : g = some bw, False := fun e => absurd (hg _ e) (by omega)
            go_wp2_with (at_builtin; go_loud (refine wpList_appendO (ys := [(m : Int)]) rfl rfl elem_int intE_len intE_one (hO.keep ((Ext.refl NoB _).alloc _) (fun _ _ => nb)) rfl (SlR.one' (alloc_at' _ _ _ (by simp)) rfl) rfl rfl hcap1 hcap2 (fun v' w3 g' hO' hx3 hg' => ?_)); have hV3 := hV2.keep hx3 hnbw; obtain ⟨A3, c3, b3, o3, rfl, hr3, hg3⟩ := hO'.read; have hc3 : w3.cell? ⟨bw, k + 1, none⟩ = some v := (hV3 (k + 1) (by omega)).1.trans (congrArg some (if_pos rfl)); have hz3 : w3.frozen? ⟨bw, k + 1, none⟩ = false := (hV3 (k + 1) (by omega)).2)
            have hszm := hxm'.size
            have hgn : ∀ q, g' = some q → wo.heap.size ≤ q := fun q hq => by
              rcases hg' with rfl | rfl
              · exact hg q hq
              · simp only [Option.some.injEq] at hq
                simp at hq
                omega
            go_roundw
            case rel =>
              refine ⟨m + 1, .slice A3 ((wl (bitAt xs k) m).length + 1) c3, g', by omega, by omega, by go_num, (hV3.set (by omega) _).congr (fun j hj => ?_), ?_, hgn, ?_⟩
              · by_cases hj : j = k + 1 <;> simp [hj]
              · rw [hwls.out, hb'.out]
                rw [List.length_append, List.length_singleton] at hO'
                exact hO'.keep ((Ext.refl (fun q => q = bw) w3).setCell (fun _ => rfl) _) (fun q hq e => by have := hgn q hq; omega)
              · exact ((hxm'.trans hA0 (fun _ _ h => h.elim)).trans hx3 (fun i hi e => absurd (hg i e) (by omega))).setCell (fun _ => rfl) _
            case measure => simp [intOf]; omega
        · obtain rfl : m = k + 1 := by omega
          have hWk : wl (bitAt xs k) (k + 1) = W (k + 1) := by rw [← hWW]; rfl
          have hmem := Lib.hid (wl_mem (bitAt xs k) (k + 1))
          have hsrt := Lib.hid (wl_sorted (bitAt xs k) (k + 1))
          rw [hWk] at hO hlen hmem hsrt
          clear hWk
          obtain ⟨A5, c5, b5, o5, rfl, hr5, hg5⟩ := hO.read
          have hdd := hd.keep hxm' (by omega) (by omega) (by omega)
          have hstm := hst.keep hxm' (by omega)
          go_wp2_with fail
          with_reducible refine (addS ((k : Int) + 1) A5 c5 b5 o5 (W (k + 1)) hdd hr5 (by omega) (by omega) (inR_of (by omega) (by omega)) (fun p hp => by have := hmem.out p hp; omega) (fun p hp => by unfold OnE at hp; omega)).mono ?_
          rintro e w4 ⟨z, rfl, hz, hd4, hx4⟩
          have hzl := hz (W (k + 1)) (lt_nodup hsrt.out) (fun _ => Iff.rfl)
          subst hzl
          clear hz
          have hcv4 := hx4.cell hcv (by show ¬ (bw = r11 ∨ bw = r12); omega)
          have hst4 := hstm.keep hx4 (by omega)
          have hVm4 := hVm.keep hx4 (by omega)
          have hr54 := hr5.keep hx4 (fun hp => by have := hg b5 (hg5 hp); omega)
          have t1 : (((W (k + 1)).length : Int) != (W (k + 1)).length) = false := by simp
          have hVset : ArS w4 bw 26 (onW W (k + 1)) := ⟨_, hVm4, fun j hj => by
            by_cases hjk : j = k + 1
            · subst hjk
              rw [if_pos rfl, onW_new]
              exact ⟨A5, c5, b5, o5, rfl, hr54, fun hp => by have := hg5 hp; have := hg b5 this; omega⟩
            · obtain ⟨A6, c6, b6, o6, h6, h7, h8⟩ := hVs j hj
              rw [if_neg hjk, onW_old W hjk]
              exact ⟨A6, c6, b6, o6, h6, (h7.keep hxm' (fun hp => by have := h8 hp; omega)).keep hx4 (fun hp => by have := h8 hp; omega), h8⟩⟩
          have hnil4 : ∀ j, k + 1 < j → j < 26 → w4.cell? ⟨bw, j, none⟩ = some (.slice none 0 0) := fun j h1 h2 => by
            rw [(hVm4 j h2).1]
            simp only [if_neg (show ¬ j = k + 1 by omega)]
            rw [hVn j (by omega) h2]
          clear hVn
          have hnil4' := Lib.hid hnil4
          clear hnil4
          have hext4 : Ext (fun q => q = r11 ∨ q = r12 ∨ q = bs ∨ q = bw) w1 w4 := (hext.trans hxm' (fun i _ h => by simp [h])).trans hx4 (fun i _ h => by rcases h with h | h <;> simp [h])
          have hd5 : DagS w4 b1 r11 r12 (OnE W (k + 1)) (24 * (k + 1)) := hd4.congr (fun p x => by
            unfold OnE
            constructor
            · rintro (⟨h1, h2, h3⟩ | ⟨h1, rfl⟩)
              · exact ⟨h1, by omega, h3⟩
              · exact ⟨by omega, by omega, h1⟩
            · rintro ⟨h1, h2, h3⟩
              by_cases hxk : x = (k : Int) + 1
              · subst hxk; exact .inr ⟨h3, rfl⟩
              · exact .inl ⟨h1, by omega, h3⟩) (by omega)
          by_cases hW0 : W (k + 1) = []
          · have t2 : (((W (k + 1)).length : Int) == 0) = true := by rw [hW0]; rfl
            have hcs := (hst4 (k + 1) (by omega)).1
            have hzs := (hst4 (k + 1) (by omega)).2
            go_wp2_with fail
            go_roundw
            case rel =>
              refine ⟨k + 1, by omega, by go_num, (hst4.set (by omega) _).congr (fun j hj => ?_), hVset.keep ((Ext.refl (fun q => q = bs) w4).setCell (fun _ => rfl) _) (fun q hq e => by omega), fun j h1 h2 => ((Ext.refl (fun q => q = bs) w4).setCell (fun _ => rfl) _).cell (hnil4'.out j h1 h2) (by show ¬ bw = bs; omega), hd5.keep ((Ext.refl (fun q => q = bs) w4).setCell (fun _ => rfl) _) (by omega) (by omega) (by omega), hext4.setCell (fun _ => .inr (.inr (.inl rfl))) _⟩
              by_cases hjk : j = k + 1
              · subst hjk
                rw [if_pos rfl, onS_new, if_pos hW0]
              · rw [if_neg hjk, onS_old W hjk]
            case measure => simp [intOf]; omega
          · have t2 : (((W (k + 1)).length : Int) == 0) = false := by
              have : (W (k + 1)).length ≠ 0 := fun h => hW0 (List.eq_nil_of_length_eq_zero h)
              simp; omega
            go_wp2_with fail
            go_roundw
            case rel =>
              refine ⟨k + 1, by omega, by go_num, hst4.congr (fun j hj => ?_), hVset, hnil4'.out, hd5, hext4⟩
              by_cases hjk : j = k + 1
              · subst hjk
                rw [onS_new, if_neg hW0]
                unfold onS
                rw [if_neg (by omega)]
              · rw [onS_old W hjk]
            case measure => simp [intOf]; omega
    · obtain rfl : k = n := by omega
      have hWok : WOk W := fun b p hp => by rw [← hWW] at hp; exact wl_mem _ b p hp
      have hst' : Ar wr bs 26 (fun j => .int .i64 (onS W k j)) := hst
      have hI0 : OInv W k 1 (onS W k) (OnE W k) := OInv.start
      clear hnil hst hx11 hst0 hwn0 hnil0 hd0
      go_wp2_with fail
      go_loopw [13] (fun i wr => ∃ (i' : Nat) (S : Nat → Int) (E : Int → Int → Prop), i' ≤ k ∧ i = .int .i64 ((i' : Int) + 1) ∧ OInv W k (i' + 1) S E ∧ Ar wr bs 26 (fun j => .int .i64 (S j)) ∧ ArS wr bw 26 (onW W k) ∧ DagS wr b1 r11 r12 E (24 * k) ∧ Ext (fun q => q = r11 ∨ q = r12 ∨ q = bs ∨ q = bw) w1 wr) (fun i _ => k + 2 - (intOf i).toNat)
      case atStart => exact ⟨0, _, _, by omega, rfl, hI0, hst', hwn, hd, hext⟩
      case round =>
        clear hst' hwn hd hext hI0
        obtain ⟨i, S, E, hi, rfl, hI, hst, hwn, hd, hext⟩ := hrel
        generalize wr = wo at *
        have hszo := hext.size
        by_cases hlt : i < k
        · have hdt : decide ((i : Int) + 1 ≤ k) = true := by simp; omega
          rcases hI.now hWok (by omega) (by omega) with hS | hS
          · have hcs : wo.cell? ⟨bs, i + 1, none⟩ = some (.int .i64 1) := by rw [← hS]; exact (hst (i + 1) (by omega)).1
            have hzs : wo.frozen? ⟨bs, i + 1, none⟩ = false := (hst (i + 1) (by omega)).2
            have hS' := Lib.hid hS
            clear hS
            have hbso : bs < wo.heap.size := World.block_lt_of_cell? wo ⟨bs, i + 1, none⟩ hcs
            have hc1 : ((i + 1 : Nat) : Int) = (i : Int) + 1 := by omega
            have hc1' := Lib.hid hc1
            clear hc1
            cases hbit : (bits .and .i64 (a1 / 2 ^ (i + 1)) 1 == 1)
            · as_aux_lemma =>
              have hsc : Ext (fun q => q = bs) wo (wo.setCell ⟨bs, i + 1, none⟩ (.int .i64 3)) := (Ext.refl (fun q => q = bs) wo).setCell (fun _ => rfl) _
              have hds := hd.keep hsc (by omega) (by omega) (by omega)
              go_wp2_with fail
              with_reducible refine (doneS ((i : Int) + 1) hds (by omega)).mono ?_
              rintro e w5 ⟨v5, g5, l5, rfl, hO5, hs5, hlen5, hd5, hx5, hg5⟩
              have hI5 := hI.done hWok (by omega) (by omega) hS'.out (l := l5) (fun x => by rw [hc1'.out]; exact hs5.2 x)
              have hml : ∀ x, x ∈ l5 → (i : Int) + 1 < x ∧ x ≤ k ∧ S x.toNat = 0 ∧ ((i : Int) + 1) ∈ W x.toNat := fun x hx => by
                have h1 := ((hs5.2 x).1 hx).1
                obtain ⟨e1, e2, e3, e4, e5⟩ := (hI.e _ _).1 h1
                exact ⟨(hI.next hWok h1).2.1, e2, e3, e4⟩
              have hml' := Lib.hid hml
              clear hml
              have hall : ∀ x, x ∈ l5 → ∀ p, p ∈ W x.toNat → S p.toNat = 3 ∨ p.toNat = i + 1 := fun x hx p hp => by
                refine Classical.byContradiction fun hno => ?_
                obtain ⟨h1, h2⟩ := (hs5.2 x).1 hx
                obtain ⟨e1, e2, e3, e4, e5⟩ := (hI.e _ _).1 h1
                have := h2 p ((hI.e _ _).2 ⟨e1, e2, e3, hp, fun h => hno (.inl h)⟩)
                exact hno (.inr (by omega))
              have hall' := Lib.hid hall
              clear hall
              obtain ⟨A5, c5, b5, o5, rfl, hr5, hgb5⟩ := hO5.read
              have hle5 := hr5.le
              have hmx5 := hr5.max
              unfold maxLen at hmx5
              have hszs : (wo.setCell ⟨bs, i + 1, none⟩ (.int .i64 3)).heap.size = wo.heap.size := by simp [World.setCell]
              have hszs' := Lib.hid hszs
              clear hszs
              have hwns := (hwn.keep hsc (fun q hq e => by omega)).keep hx5 (fun q hq e => by omega)
              have hst5 := (hst.set (j := i + 1) (by omega) (.int .i64 3)).keep hx5 (by omega)
              have hext5 := (hext.trans hsc (F := fun q => q = r11 ∨ q = r12 ∨ q = bs ∨ q = bw) (fun q _ e => by simp [e])).trans hx5 (fun q _ e => by rcases e with e | e <;> simp [e])
              have hsz5 := hx5.size
              rw [hszs'.out] at hsz5
              clear hcs hzs hst hwn hd hds
              go_wp2_with fail
              go_loopw [17] (fun j wr => ∃ t : Nat, t ≤ l5.length ∧ j = .int .i64 t ∧ Ar wr bs 26 (fun b => .int .i64 (onT S (i + 1) 1 (l5.take t) b)) ∧ Ext (fun q => q = bs) w5 wr) (fun j _ => l5.length - (intOf j).toNat)
              case atStart =>
                refine ⟨0, Nat.zero_le _, rfl, hst5.congr (fun b hb => ?_), Ext.refl _ _⟩
                unfold onT
                by_cases hbi : b = i + 1 <;> simp [hbi]
              case round =>
                obtain ⟨t, ht, rfl, hT, hxt⟩ := hrel
                by_cases htl : t < l5.length
                · obtain rfl := hr5.addr (by omega)
                  have hb5 := hg5 _ (hgb5 (by omega))
                  rw [hszs'.out] at hb5
                  have hrt := hr5.keep hxt (fun _ => by omega)
                  have hcl := hrt.intCell t htl
                  have hylm : l5[t] ∈ l5 := List.getElem_mem htl
                  obtain ⟨hy1, hy2, hy3, hy4⟩ := hml'.out l5[t] hylm
                  have hya := hall'.out l5[t] hylm
                  have htk := Lib.hid (List.take_succ_eq_append_getElem htl)
                  have hltk := Lib.hid (take_lt hs5.1 htl)
                  obtain ⟨y, hyv⟩ : ∃ y : Nat, l5[t] = (y : Int) := ⟨l5[t].toNat, by omega⟩
                  have hyv' := Lib.hid hyv
                  rw [hyv] at hcl hy1 hy2 hy3 hy4 hya
                  clear hyv hylm
                  rw [Int.toNat_natCast] at hy3 hy4 hya
                  have hy3' := Lib.hid hy3
                  have hya' := Lib.hid hya
                  clear hy3 hya
                  have hyn : (y : Int) ∉ l5.take t := fun hm => by have := hltk.out _ hm; rw [hyv'.out] at this; omega
                  have hT0 : onT S (i + 1) 1 (l5.take t) y = 0 := by unfold onT; rw [if_neg hyn, if_neg (by omega)]; exact hy3'.out
                  have hsy : wr.cell? ⟨bs, y, none⟩ = some (.int .i64 0) := by rw [← hT0]; exact (hT y (by omega)).1
                  clear hT0
                  have hwr := hwns.keep hxt (fun q hq e => by omega)
                  obtain ⟨V, hV, hVs⟩ := hwr
                  obtain ⟨A6, c6, b6, o6, h6, hr6, hb6⟩ := hVs y (by omega)
                  have hWy : onW W k y = W y := by unfold onW; rw [if_pos (by omega)]
                  rw [hWy] at h6 hr6 hb6
                  have hcW : wr.cell? ⟨bw, y, none⟩ = some (.slice A6 (W y).length c6) := by rw [← h6]; exact (hV y (by omega)).1
                  have hbw6 : bw < wr.heap.size := World.block_lt_of_cell? wr ⟨bw, y, none⟩ hcW
                  clear hWy h6 hV hVs
                  have hhas : ∀ nn, Calls Try.prog 15 #[.slice A6 (W y).length c6, .int .i64 ((i : Int) + 1)] (wr.drewN nn) fun e w' => e = .returned (.bool true) ∧ w' = wr.drewN nn := fun nn => by
                    have := has_calls A6 c6 b6 o6 (W y) ((i : Int) + 1) (wr.drewN nn) (hr6.keep ((Ext.refl NoB wr).drewN nn) nb1)
                    rwa [show decide ((i : Int) + 1 ∈ W y) = true from decide_eq_true hy4] at this
                  have d1 : decide ((y : Int) ≤ (i : Int) + 1) = false := by simp; omega
                  have d2 : decide (k < y) = false := by simp; omega
                  have hfin : ∀ wz, Ext NoB wr wz → Ar (wz.setCell ⟨bs, y, none⟩ (.int .i64 1)) bs 26 (fun b => .int .i64 (onT S (i + 1) 1 (l5.take (t + 1)) b)) := fun wz hz =>
                    ((hT.keep hz nb).set (by omega) _).congr (fun b hb => by
                      rw [htk.out, hyv'.out]
                      unfold onT
                      by_cases hby : b = y
                      · simp [hby]
                      · have : ¬ (b : Int) = (y : Int) := by omega
                        simp [hby, this])
                  have hq3 : ∀ p, p ∈ W y → ∃ q : Nat, p = (q : Int) ∧ q < 26 ∧ onT S (i + 1) 1 (l5.take t) q = 3 := fun p hp => by
                    have hpp := hWok y p hp
                    refine ⟨p.toNat, by omega, by omega, ?_⟩
                    have hpn : ((p.toNat : Nat) : Int) ∉ l5.take t := fun hm => by
                      have h1 := hml'.out _ (List.mem_of_mem_take hm)
                      rw [Int.toNat_natCast] at h1
                      rcases hya'.out p hp with h2 | h2 <;> omega
                    unfold onT
                    rw [if_neg hpn]
                    rcases hya'.out p hp with h2 | h2
                    · by_cases h3 : p.toNat = i + 1
                      · rw [if_pos h3]
                      · rw [if_neg h3]; exact h2
                    · rw [if_pos h2]
                  have hq3' := Lib.hid hq3
                  clear hq3
                  have hle6 := hr6.le
                  have hmx6 := hr6.max
                  unfold maxLen at hmx6
                  by_cases ht0 : t = 0
                  · have d3 : decide (0 < t) = false := by simp; omega
                    clear ht0
                    go_wp2_with fail
                    go_quiet ((go_at_call 15; exact Calls.quiet_of_same (hhas _)))
                    refine gen_then ?_
                    intro wz hz
                    have hcl' := hz.cell hcl nb
                    have hsy' := hz.cell hsy nb
                    have hTz := hT.keep hz nb
                    have hzy' := (hTz y (by omega)).2
                    have hcW' := hz.cell hcW nb
                    have hr6z := hr6.keep hz nb1
                    clear hcl hsy hcW hhas
                    go_wp2_with fail
                    go_loop [18] (fun j => ∃ m : Nat, m ≤ (W y).length ∧ j = .int .i64 m) (fun j => (W y).length - (intOf j).toNat)
                    case atStart => exact ⟨0, Nat.zero_le _, rfl⟩
                    case round =>
                      obtain ⟨m, hm, rfl⟩ := hrel
                      by_cases hml2 : m < (W y).length
                      · obtain rfl := hr6z.addr (by omega)
                        have hcp := hr6z.intCell m hml2
                        obtain ⟨q, hq1, hq2, hq4⟩ := hq3'.out (W y)[m] (List.getElem_mem hml2)
                        rw [hq1] at hcp
                        have hcq : wz.cell? ⟨bs, q, none⟩ = some (.int .i64 3) := by rw [← hq4]; exact (hTz q hq2).1
                        clear hq1 hq4
                        go_wp2_with fail
                        go_round
                        case rel => exact ⟨m + 1, by omega, by go_num⟩
                        case measure => simp [intOf]; omega
                      · go_wp2_with fail
                        go_roundw
                        case rel => exact ⟨t + 1, by omega, by go_num, hfin wz hz, ((hxt.trans hz (fun _ _ h => h.elim)).setCell (fun _ => rfl) _)⟩
                        case measure => simp [intOf]; omega
                  · have d3 : decide (0 < t) = true := by simp; omega
                    obtain ⟨t', ht'⟩ : ∃ t' : Nat, t = t' + 1 := ⟨t - 1, by omega⟩
                    have ht1 : t' < l5.length := by omega
                    have hcl2 := hrt.intCell t' ht1
                    have d4 : decide ((y : Int) ≤ l5[t']) = false := by
                      have := List.pairwise_iff_getElem.1 hs5.1 t' t ht1 htl (by omega)
                      rw [hyv'.out] at this
                      simp; omega
                    have he4 : (t : Int) - 1 = t' := by omega
                    have ht'' := Lib.hid ht'
                    clear ht' ht0
                    go_wp2_with fail
                    go_quiet ((go_at_call 15; exact Calls.quiet_of_same (hhas _)))
                    refine gen_then ?_
                    intro wz hz
                    have hcl' := hz.cell hcl nb
                    have hsy' := hz.cell hsy nb
                    have hTz := hT.keep hz nb
                    have hzy' := (hTz y (by omega)).2
                    have hcW' := hz.cell hcW nb
                    have hr6z := hr6.keep hz nb1
                    clear hcl hsy hcW hhas hcl2
                    go_wp2_with fail
                    go_loop [18] (fun j => ∃ m : Nat, m ≤ (W y).length ∧ j = .int .i64 m) (fun j => (W y).length - (intOf j).toNat)
                    case atStart => exact ⟨0, Nat.zero_le _, rfl⟩
                    case round =>
                      obtain ⟨m, hm, rfl⟩ := hrel
                      by_cases hml2 : m < (W y).length
                      · obtain rfl := hr6z.addr (by omega)
                        have hcp := hr6z.intCell m hml2
                        obtain ⟨q, hq1, hq2, hq4⟩ := hq3'.out (W y)[m] (List.getElem_mem hml2)
                        rw [hq1] at hcp
                        have hcq : wz.cell? ⟨bs, q, none⟩ = some (.int .i64 3) := by rw [← hq4]; exact (hTz q hq2).1
                        clear hq1 hq4
                        go_wp2_with fail
                        go_round
                        case rel => exact ⟨m + 1, by omega, by go_num⟩
                        case measure => simp [intOf]; omega
                      · go_wp2_with fail
                        go_roundw
                        case rel => exact ⟨t + 1, by omega, by go_num, hfin wz hz, ((hxt.trans hz (fun _ _ h => h.elim)).setCell (fun _ => rfl) _)⟩
                        case measure => simp [intOf]; omega
                · obtain rfl : t = l5.length := by omega
                  rw [List.take_length] at hT
                  go_wp2_with fail
                  go_roundw
                  case rel =>
                    refine ⟨i + 1, _, _, by omega, by go_num, hI5, hT, hwns.keep hxt (fun q hq e => by omega), (hd5.keep hxt (by omega) (by omega) (by omega)).congr (fun p x => by rw [hc1'.out]) (Nat.le_refl _), hext5.trans hxt (fun q _ e => by simp [e])⟩
                  case measure => simp [intOf]; omega
            · as_aux_lemma =>
              go_wp2_with fail
              with_reducible refine (killS ((i : Int) + 1) (inR_of (by omega) (by omega)) hd (by omega)).mono ?_
              rintro e w5 ⟨v5, g5, l5, rfl, hO5, hs5, hlen5, hd5, hx5, hg5⟩
              have hI5 := hI.kill hWok (by omega) (by omega) hS'.out (l := l5) (fun x => by rw [hc1'.out]; exact hs5.2 x)
              have hml : ∀ x, x ∈ l5 → (i : Int) + 1 < x ∧ x ≤ k ∧ S x.toNat = 0 := fun x hx => by
                obtain ⟨h1, h2⟩ := (hs5.2 x).1 hx
                rw [← hc1'.out] at h1 h2 ⊢
                exact (hI.rch hWok h1).resolve_left h2
              have hml' := Lib.hid hml
              clear hml
              obtain ⟨A5, c5, b5, o5, rfl, hr5, hgb5⟩ := hO5.read
              have hle5 := hr5.le
              have hmx5 := hr5.max
              unfold maxLen at hmx5
              have hst5 := hst.keep hx5 (by omega)
              have hcs5 : w5.cell? ⟨bs, i + 1, none⟩ = some (.int .i64 1) := hx5.cell hcs (by show ¬ (bs = r11 ∨ bs = r12); omega)
              have hzs5 : w5.frozen? ⟨bs, i + 1, none⟩ = false := (hst5 (i + 1) (by omega)).2
              clear hcs hzs
              go_wp2_with fail
              go_loopw [15] (fun j wr => ∃ t : Nat, t ≤ l5.length ∧ j = .int .i64 t ∧ Ar wr bs 26 (fun b => .int .i64 (onT S (i + 1) 2 (l5.take t) b)) ∧ Ext (fun q => q = bs) w5 wr) (fun j _ => l5.length - (intOf j).toNat)
              case atStart =>
                refine ⟨0, Nat.zero_le _, rfl, (hst5.set (by omega) _).congr (fun b hb => ?_), (Ext.refl (fun q => q = bs) w5).setCell (fun _ => rfl) _⟩
                unfold onT
                by_cases hbi : b = i + 1 <;> simp [hbi]
              case round =>
                obtain ⟨t, ht, rfl, hT, hxt⟩ := hrel
                by_cases htl : t < l5.length
                · obtain rfl := hr5.addr (by omega)
                  have hb5 := hg5 _ (hgb5 (by omega))
                  have hrt := hr5.keep hxt (fun _ => by omega)
                  have hcl := hrt.intCell t htl
                  obtain ⟨hy1, hy2, hy3⟩ := hml'.out l5[t] (List.getElem_mem htl)
                  have htk := Lib.hid (List.take_succ_eq_append_getElem htl)
                  have hltk := Lib.hid (take_lt hs5.1 htl)
                  obtain ⟨y, hyv⟩ : ∃ y : Nat, l5[t] = (y : Int) := ⟨l5[t].toNat, by omega⟩
                  have hyv' := Lib.hid hyv
                  rw [hyv] at hcl hy1 hy2 hy3
                  clear hyv
                  rw [Int.toNat_natCast] at hy3
                  have hy3' := Lib.hid hy3
                  clear hy3
                  have hyn : (y : Int) ∉ l5.take t := fun hm => by have := hltk.out _ hm; rw [hyv'.out] at this; omega
                  have hT0 : onT S (i + 1) 2 (l5.take t) y = 0 := by unfold onT; rw [if_neg hyn, if_neg (by omega)]; exact hy3'.out
                  have hsy : wr.cell? ⟨bs, y, none⟩ = some (.int .i64 0) := by rw [← hT0]; exact (hT y (by omega)).1
                  have hzy : wr.frozen? ⟨bs, y, none⟩ = false := (hT y (by omega)).2
                  clear hT0
                  have d1 : decide ((y : Int) ≤ (i : Int) + 1) = false := by simp; omega
                  have d2 : decide (k < y) = false := by simp; omega
                  have hfin : ∀ wz, Ext NoB wr wz → Ar (wz.setCell ⟨bs, y, none⟩ (.int .i64 2)) bs 26 (fun b => .int .i64 (onT S (i + 1) 2 (l5.take (t + 1)) b)) := fun wz hz =>
                    ((hT.keep hz nb).set (by omega) _).congr (fun b hb => by
                      rw [htk.out, hyv'.out]
                      unfold onT
                      by_cases hby : b = y
                      · simp [hby]
                      · have : ¬ (b : Int) = (y : Int) := by omega
                        simp [hby, this])
                  by_cases ht0 : t = 0
                  · have d3 : decide (0 < t) = false := by simp; omega
                    clear ht0
                    go_wp2_with fail
                    go_quiet (fail)
                    refine gen_then ?_
                    intro wz hz
                    have hcl' := hz.cell hcl nb
                    have hsy' := hz.cell hsy nb
                    have hzy' := ((hT.keep hz nb) y (by omega)).2
                    clear hcl hsy hzy
                    go_wp2_with fail
                    go_roundw
                    case rel => exact ⟨t + 1, by omega, by go_num, hfin wz hz, ((hxt.trans hz (fun _ _ h => h.elim)).setCell (fun _ => rfl) _)⟩
                    case measure => simp [intOf]; omega
                  · have d3 : decide (0 < t) = true := by simp; omega
                    obtain ⟨t', ht'⟩ : ∃ t' : Nat, t = t' + 1 := ⟨t - 1, by omega⟩
                    have ht1 : t' < l5.length := by omega
                    have hcl2 := hrt.intCell t' ht1
                    have d4 : decide ((y : Int) ≤ l5[t']) = false := by
                      have := List.pairwise_iff_getElem.1 hs5.1 t' t ht1 htl (by omega)
                      rw [hyv'.out] at this
                      simp; omega
                    have he4 : (t : Int) - 1 = t' := by omega
                    have ht'' := Lib.hid ht'
                    clear ht' ht0
                    go_wp2_with fail
                    go_quiet (fail)
                    refine gen_then ?_
                    intro wz hz
                    have hcl' := hz.cell hcl nb
                    have hsy' := hz.cell hsy nb
                    have hzy' := ((hT.keep hz nb) y (by omega)).2
                    clear hcl hsy hzy hcl2
                    go_wp2_with fail
                    go_roundw
                    case rel => exact ⟨t + 1, by omega, by go_num, hfin wz hz, ((hxt.trans hz (fun _ _ h => h.elim)).setCell (fun _ => rfl) _)⟩
                    case measure => simp [intOf]; omega
                · obtain rfl : t = l5.length := by omega
                  rw [List.take_length] at hT
                  go_wp2_with fail
                  go_roundw
                  case rel =>
                    refine ⟨i + 1, _, _, by omega, by go_num, hI5, hT, (hwn.keep hx5 (fun q hq e => by omega)).keep hxt (fun q hq e => by omega), (hd5.keep hxt (by omega) (by omega) (by omega)).congr (fun p x => by rw [hc1'.out]) (Nat.le_refl _), (hext.trans hx5 (fun q _ e => by rcases e with e | e <;> simp [e])).trans hxt (fun q _ e => by simp [e])⟩
                  case measure => simp [intOf]; omega
          · have hcs : wo.cell? ⟨bs, i + 1, none⟩ = some (.int .i64 2) := by rw [← hS]; exact (hst (i + 1) (by omega)).1
            have hS' := Lib.hid hS
            clear hS
            go_wp2_with fail
            go_roundw
            case rel => exact ⟨i + 1, S, E, by omega, by go_num, hI.skip hS'.out, hst, hwn, hd, hext⟩
            case measure => simp [intOf]; omega
        · obtain rfl : i = k := by omega
          go_wp2_with fail
          with_reducible refine (lenS hd).mono ?_
          rintro e w6 ⟨q, rfl, hq, rfl⟩
          have hq0 : q = 0 := hq [] (by simp) (fun x => by
            simp only [List.not_mem_nil, false_iff]
            rintro ⟨p, hp⟩
            exact hI.fin hWok p x hp)
          subst hq0
          go_wp2_with fail
          with_reducible refine (awake_calls _).mono ?_
          rintro e w8 ⟨rfl, hx8⟩
          go_wp2_with fail
          go_ret
          exact ⟨rfl, (hx1.trans hext (fun i hi h => absurd h (by omega))).trans hx8 (fun _ _ h => h)⟩

end Go.Proofs.Ytolihdcfhonfgaa
