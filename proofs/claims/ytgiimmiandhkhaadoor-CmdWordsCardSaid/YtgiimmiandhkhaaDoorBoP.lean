/- The bodies: what is told is read again (plain). -/
import Derived.Test.YtgiimmiandhkhaaDoorProg
import Derived.Test.YtgiimmiandhkhaaDoorBoH
namespace Go.Proofs.YtgiimmiandhkhaaDoor
open Go.RowKit
set_option linter.unusedSimpArgs false
set_option linter.unusedVariables false

theorem parse_app : ∀ (l1 l2 : List UInt8) (acc : Nat), Lib.parseUint10 acc (l1 ++ l2) = match Lib.parseUint10 acc l1 with | .ok u => Lib.parseUint10 u l2 | .«syntax» => .«syntax» | .range => .range
  | [], l2, acc => rfl
  | c :: r, l2, acc => by
    rw [List.cons_append, Lib.parseUint10, Lib.parseUint10]
    split
    · split
      · rfl
      · split
        · rfl
        · exact parse_app r l2 _
    · rfl
theorem dig_nat {d : Nat} (h : d < 10) : (UInt8.ofNat (48 + d)).toNat = 48 + d := by
  rw [UInt8.toNat_ofNat']; omega
theorem dec_rec (u : Nat) : Lib.decDigits u = if u < 10 then [UInt8.ofNat (48 + u)] else Lib.decDigits (u / 10) ++ [UInt8.ofNat (48 + u % 10)] := by
  rw [Lib.decDigits]
  split <;> rfl
theorem dec_dig : ∀ (u : Nat), ∀ b ∈ Lib.decDigits u, 48 ≤ b.toNat ∧ b.toNat ≤ 57 := by
  intro u
  induction u using Nat.strongRecOn with
  | ind u ih =>
    intro b hb
    rw [dec_rec] at hb
    split at hb
    · simp only [List.mem_singleton] at hb
      subst hb
      rw [dig_nat (by omega)]; omega
    · rcases List.mem_append.1 hb with hb | hb
      · exact ih (u / 10) (by omega) b hb
      · simp only [List.mem_singleton] at hb
        subst hb
        rw [dig_nat (by omega)]; omega
theorem parse_dec : ∀ (u : Nat), u < 1000000000000000000 → Lib.parseUint10 0 (Lib.decDigits u) = .ok u := by
  intro u
  induction u using Nat.strongRecOn with
  | ind u ih =>
    intro hu
    rw [dec_rec]
    split
    · have h := dig_nat (d := u) (by omega)
      rw [Lib.parseUint10, if_pos (by rw [h]; omega), if_neg (by omega), if_neg (by rw [h]; omega), h]
      simp [Lib.parseUint10]
    · have h := dig_nat (d := u % 10) (by omega)
      rw [parse_app, ih (u / 10) (by omega) (by omega)]
      simp only []
      rw [Lib.parseUint10, if_pos (by rw [h]; omega), if_neg (by omega), if_neg (by rw [h]; omega), h]
      simp only [Lib.parseUint10]
      congr 1
      omega
theorem itoa_dig (n : Int) (h : 0 ≤ n) : ∀ b ∈ Lib.itoa n, 48 ≤ b.toNat ∧ b.toNat ≤ 57 := by
  obtain ⟨u, rfl⟩ : ∃ u : Nat, n = u := ⟨n.toNat, by omega⟩
  rw [Lib.itoa_nonneg]
  exact dec_dig u
theorem atV_itoa (n : Int) (h0 : 0 ≤ n) (h1 : n ≤ 1000000) : atV (Lib.itoa n) = n := by
  have hd := itoa_dig n h0
  obtain ⟨u, rfl⟩ : ∃ u : Nat, n = u := ⟨n.toNat, by omega⟩
  have hp := parse_dec u (by omega)
  rw [Lib.itoa_nonneg] at hd ⊢
  cases hl : Lib.decDigits u with
  | nil =>
    have := Lib.decDigits_length u
    have := Lib.nDigits_pos u
    rw [hl] at *
    simp at *
    omega
  | cons c r =>
    rw [hl] at hd hp
    have hc := hd c (by simp)
    unfold atV Lib.atoiAll
    have hm : Lib.parseMag (c :: r) = .ok u := by unfold Lib.parseMag; rw [if_neg (by simp)]; exact hp
    have n1 : ¬ c.toNat = 43 := by omega
    have n2 : ¬ c.toNat = 45 := by omega
    simp only [n1, n2, or_self, if_false]
    rw [hm]
    simp only []
    rw [if_neg (by omega), if_neg (by simp)]

theorem itoa_len (n : Int) (h0 : 0 ≤ n) (h1 : n ≤ 1000000) : (Lib.itoa n).length ≤ 7 ∧ (n ≤ 1000 → (Lib.itoa n).length ≤ 4) := by
  obtain ⟨u, rfl⟩ : ∃ u : Nat, n = u := ⟨n.toNat, by omega⟩
  rw [Lib.itoa_nonneg, Lib.decDigits_length]
  have key : ∀ k u : Nat, u < 10 ^ (k + 1) → Lib.nDigits u ≤ k + 1 := by
    intro k
    induction k with
    | zero => intro u hu; rw [Lib.nDigits_small (by omega)]; omega
    | succ k ih =>
      intro u hu
      by_cases h : u < 10
      · rw [Lib.nDigits_small h]; omega
      · rw [Lib.nDigits_big h]
        have := ih (u / 10) (by rw [Nat.pow_succ] at hu ⊢; rw [Nat.pow_succ] at hu; omega)
        omega
  exact ⟨key 6 u (by have : (10 : Nat) ^ 7 = 10000000 := rfl; omega), fun h => key 3 u (by have : (10 : Nat) ^ 4 = 10000 := rfl; omega)⟩

theorem argsL_eq (o : BOp) : argsL o 0 = [] ∧ argsL o 1 = 32 :: Lib.itoa o.a ∧ argsL o 2 = 32 :: (Lib.itoa o.a ++ 32 :: Lib.itoa o.b) := ⟨by simp [argsL], by simp [argsL], by simp [argsL]⟩
theorem no_byte {l : List UInt8} (h : ∀ b ∈ l, 48 ≤ b.toNat ∧ b.toNat ≤ 57) (c : UInt8) (hc : c.toNat < 48 ∨ 57 < c.toNat) : c ∉ l := fun hm => by have := h c hm; omega

/-- The parts of an op's text. -/
theorem told_parts (o : BOp) (h : fitsB o = true) : spl 32 (toldL o) = wdOf o.k :: ([o.a, o.b].take (arOf o.k)).map Lib.itoa := by
  obtain ⟨h1, h2, h3, h4, h5, h6⟩ := fits_bnd h
  have na := no_byte (itoa_dig o.a h3) 32 (.inl (by decide))
  have nb' := no_byte (itoa_dig o.b h5) 32 (.inl (by decide))
  obtain ⟨e0, e1, e2⟩ := argsL_eq o
  have hk : o.k = 1 ∨ o.k = 2 ∨ o.k = 3 ∨ o.k = 4 ∨ o.k = 5 := by omega
  unfold toldL
  rcases hk with hk | hk | hk | hk | hk <;> rw [hk]
  · rw [show arOf 1 = 0 from rfl, e0]; rfl
  · rw [show arOf 2 = 1 from rfl, e1, spl_app 32 _ (by decide), spl_no 32 _ na]; rfl
  · rw [show arOf 3 = 2 from rfl, e2, spl_app 32 _ (by decide), spl_app 32 _ na, spl_no 32 _ nb']; rfl
  · rw [show arOf 4 = 1 from rfl, e1, spl_app 32 _ (by decide), spl_no 32 _ na]; rfl
  · rw [show arOf 5 = 0 from rfl, e0]; rfl
theorem told_zero (o : BOp) (h : fitsB o = true) : (arOf o.k = 0 → o.a = 0) ∧ (arOf o.k ≤ 1 → o.b = 0) := by
  obtain ⟨h1, h2, h3, h4, h5, h6⟩ := fits_bnd h
  obtain ⟨k, a, b⟩ := o
  dsimp only at *
  simp only [fitsB, Bool.and_eq_true, decide_eq_true_iff] at h
  obtain ⟨⟨_, ha1, ha2⟩, hb1, hb2⟩ := h
  have hk : k = 1 ∨ k = 2 ∨ k = 3 ∨ k = 4 ∨ k = 5 := by omega
  rcases hk with rfl | rfl | rfl | rfl | rfl
  · rw [show spanOf 1 0 = (0, 0) by decide] at ha1 ha2
    rw [show spanOf 1 1 = (0, 0) by decide] at hb1 hb2
    dsimp only at *
    exact ⟨fun _ => by omega, fun _ => by omega⟩
  · rw [show spanOf 2 1 = (0, 0) by decide] at hb1 hb2
    dsimp only at *
    exact ⟨fun e => absurd e (by decide), fun _ => by omega⟩
  · exact ⟨fun e => absurd e (by decide), fun e => absurd e (by decide)⟩
  · rw [show spanOf 4 1 = (0, 0) by decide] at hb1 hb2
    dsimp only at *
    exact ⟨fun e => absurd e (by decide), fun _ => by omega⟩
  · rw [show spanOf 5 0 = (0, 0) by decide] at ha1 ha2
    rw [show spanOf 5 1 = (0, 0) by decide] at hb1 hb2
    dsimp only at *
    exact ⟨fun _ => by omega, fun _ => by omega⟩

theorem readB_of (B : List ByteArray) (x : (Int × Int) × ByteArray) (hx : x ∈ wordsL) (h3 : B.length ≤ 3) (h0 : some x.2 = B[0]?) : readB B = (⟨x.1.1, atB B 1, atB B 2⟩, decide (x.1.2 = (B.length : Int) - 1)) := by
  unfold readB
  rw [if_neg (by omega), words_find x hx _ h0]
/-- What is told is read. -/
theorem read_told (o : BOp) (h : fitsB o = true) : readS (toldL o) = (o, true) := by
  obtain ⟨h1, h2, h3, h4, h5, h6⟩ := fits_bnd h
  obtain ⟨z1, z2⟩ := told_zero o h
  obtain ⟨q1, _⟩ := words_at h1 h2
  have har := ar_le o.k
  have ha := atV_itoa o.a h3 (by omega)
  have hb := atV_itoa o.b h5 h6
  unfold readS
  rw [told_parts o h, List.map_cons]
  have hmem : (((o.k, (arOf o.k : Int)), mk (wdOf o.k)) : (Int × Int) × ByteArray) ∈ wordsL := mem_of_mget q1
  obtain ⟨k, a, b⟩ := o
  dsimp only at *
  generalize arOf k = ar at *
  have hdata : ∀ l : List UInt8, (mk l).data.toList = l := fun l => by simp [mk]
  have hc : ar = 0 ∨ ar = 1 ∨ ar = 2 := by omega
  rcases hc with rfl | rfl | rfl
  · have := z1 rfl
    have := z2 (by omega)
    subst a; subst b
    rw [readB_of _ _ hmem (by simp) rfl]
    rfl
  · have := z2 (by omega)
    subst b
    rw [readB_of _ _ hmem (by simp) rfl]
    simp [atB, hdata, ha]
  · rw [readB_of _ _ hmem (by simp) rfl]
    simp [atB, hdata, ha, hb]
theorem readAll_told : ∀ (l : List BOp), l.all fitsB = true → readAll (l.map toldL) = some l
  | [], _ => rfl
  | o :: r, h => by
    rw [List.all_cons, Bool.and_eq_true] at h
    rw [List.map_cons, readAll, read_told o h.1, if_pos rfl, readAll_told r h.2]; rfl

theorem wd_fine (k : Int) : (∀ b ∈ wdOf k, b ≠ 59) ∧ (wdOf k).head? ≠ some 45 ∧ wdOf k ≠ [] := by
  unfold wdOf
  (repeat' split) <;> exact ⟨by decide, by decide, by decide⟩
theorem told_fine (o : BOp) (h : fitsB o = true) : (59 : UInt8) ∉ toldL o ∧ (toldL o).head? ≠ some 45 ∧ (toldL o).length ≤ 19 := by
  obtain ⟨h1, h2, h3, h4, h5, h6⟩ := fits_bnd h
  obtain ⟨e0, e1, e2⟩ := argsL_eq o
  obtain ⟨w1, w2, w3⟩ := wd_fine o.k
  have na := no_byte (itoa_dig o.a h3) 59 (.inr (by decide))
  have nb' := no_byte (itoa_dig o.b h5) 59 (.inr (by decide))
  have l1 := (itoa_len o.a h3 (by omega)).2 h4
  have l2 := (itoa_len o.b h5 h6).1
  have wl := wd_le o.k
  have har := ar_le o.k
  have hc : arOf o.k = 0 ∨ arOf o.k = 1 ∨ arOf o.k = 2 := by omega
  unfold toldL
  generalize wdOf o.k = wd at *
  refine ⟨?_, ?_, ?_⟩
  · rw [List.mem_append]
    rintro (hm | hm)
    · exact w1 59 hm rfl
    · rcases hc with hc | hc | hc <;> rw [hc] at hm
      · rw [e0] at hm; simp at hm
      · rw [e1] at hm
        rcases List.mem_cons.1 hm with hm | hm
        · exact absurd hm (by decide)
        · exact na hm
      · rw [e2] at hm
        rcases List.mem_cons.1 hm with hm | hm
        · exact absurd hm (by decide)
        · rcases List.mem_append.1 hm with hm | hm
          · exact na hm
          · rcases List.mem_cons.1 hm with hm | hm
            · exact absurd hm (by decide)
            · exact nb' hm
  · cases wd with
    | nil => exact absurd rfl w3
    | cons c r => exact w2
  · rw [List.length_append]
    rcases hc with hc | hc | hc <;> rw [hc]
    · rw [e0]; simp; omega
    · rw [e1]; simp; omega
    · rw [e2]; simp; omega

/-- A body that may be is read again out of its text. -/
theorem parse_text (l : List BOp) (h : okB l = true) : parseV (textL l) = (l, 0) := by
  have h' := h
  unfold okB at h'
  rw [Bool.and_eq_true, decide_eq_true_iff] at h'
  obtain ⟨h16, hall⟩ := h'
  cases l with
  | nil => rfl
  | cons o r =>
    have hne : (o :: r : List BOp) ≠ [] := by simp
    have ht : textL (o :: r) = Lib.join ((o :: r).map toldL) [59] := by unfold textL; rw [if_neg hne]
    have hfine : ∀ x ∈ (o :: r).map toldL, (59 : UInt8) ∉ x ∧ x.length ≤ 19 := fun x hx => by
      obtain ⟨y, hy, rfl⟩ := List.mem_map.1 hx
      have := told_fine y (List.all_eq_true.1 hall y hy)
      exact ⟨this.1, this.2.2⟩
    have hlen := join_len [59] ((o :: r).map toldL) 19 (fun x hx => (hfine x hx).2) (by simp)
    rw [List.length_map] at hlen
    have hspl := spl_join 59 ((o :: r).map toldL) (by simp) (fun x hx => (hfine x hx).1)
    have hdash : Lib.join ((o :: r).map toldL) [59] ≠ [45] := by
      intro e
      have ho := (told_fine o (List.all_eq_true.1 hall o (by simp))).2.1
      rw [List.map_cons, Lib.join_cons] at e
      have hw := (wd_fine o.k).2.2
      have hto : toldL o ≠ [] := by
        unfold toldL
        simp [hw]
      cases hh : toldL o with
      | nil => exact hto hh
      | cons c t =>
        rw [hh] at e ho
        rw [List.cons_append] at e
        have := (List.cons.inj e).1
        subst this
        exact ho rfl
    unfold parseV
    rw [ht, if_neg (by omega), if_neg hdash, hspl, readAll_told _ hall]
    simp only []
    rw [if_pos ⟨h, ht⟩]
end Go.Proofs.YtgiimmiandhkhaaDoor
