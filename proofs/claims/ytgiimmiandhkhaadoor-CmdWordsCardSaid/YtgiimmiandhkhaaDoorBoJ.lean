/- The bodies: the reference's op of a text, and why its body is the program's (plain). -/
import Derived.Test.YtgiimmiandhkhaaDoorProg
import Derived.Test.YtgiimmiandhkhaaDoorBoM
namespace Go.Proofs.YtgiimmiandhkhaaDoor
open Go.RowKit
set_option linter.unusedSimpArgs false
set_option linter.unusedVariables false

def numsL : List (List UInt8) → Option (List Nat)
  | [] => some []
  | w :: r => match numV w 9 with
    | none => none
    | some n => (numsL r).map (n :: ·)
/-- The op of a word and of its numbers. -/
def pickO (w : List UInt8) (ns : List Nat) : BOp :=
  if w = wdOf 1 ∧ ns.length = 0 then ⟨1, 0, 0⟩
  else if w = wdOf 2 ∧ ns.length = 1 then ⟨2, (ns[0]?.getD 0 : Nat), 0⟩
  else if w = wdOf 3 ∧ ns.length = 2 then ⟨3, (ns[0]?.getD 0 : Nat), (ns[1]?.getD 0 : Nat)⟩
  else if w = wdOf 4 ∧ ns.length = 1 then ⟨4, (ns[0]?.getD 0 : Nat), 0⟩
  else if w = wdOf 5 ∧ ns.length = 0 then ⟨5, 0, 0⟩
  else ⟨0, 0, 0⟩
def opRV (s : List UInt8) : BOp × Bool :=
  match numsL (spl 32 s).tail with
  | none => (⟨0, 0, 0⟩, false)
  | some ns => (pickO ((spl 32 s).head?.getD []) ns, fitsB (pickO ((spl 32 s).head?.getD []) ns))

theorem numV_some {w : List UInt8} {m v : Nat} (h : numV w m = some v) : Lib.decDigits v = w ∧ v = valL w ∧ w.length ≤ m ∧ w.all digB = true := by
  unfold numV at h
  split at h
  · cases h
  · rename_i hc
    split at h
    · rename_i hd
      simp only [Option.some.injEq] at h
      subst h
      have hne : w ≠ [] := fun e => hc (.inl e)
      have hz : w.head? = some 48 → w = [48] := fun e => Classical.byContradiction fun hn => hc (.inr (.inr ⟨e, hn⟩))
      exact ⟨(dec_val w.length w rfl hne hd hz).1, rfl, Nat.le_of_not_lt (fun hl => hc (.inr (.inl hl))), hd⟩
    · cases h
theorem dec_head : ∀ u : Nat, u ≠ 0 → (Lib.decDigits u).head? ≠ some 48 := by
  intro u
  induction u using Nat.strongRecOn with
  | ind u ih =>
    intro hu
    rw [dec_rec]
    split
    · intro e
      have := congrArg (fun x : Option UInt8 => x.map UInt8.toNat) e
      simp only [List.head?_cons, Option.map_some, Option.some.injEq] at this
      rw [dig_nat (by omega)] at this
      have h48 : (48 : UInt8).toNat = 48 := rfl
      omega
    · have := ih (u / 10) (by omega) (by omega)
      cases hd : Lib.decDigits (u / 10) with
      | nil =>
        have h1 := Lib.decDigits_length (u / 10)
        have h2 := Lib.nDigits_pos (u / 10)
        rw [hd] at h1
        simp at h1
        omega
      | cons c r => rw [hd] at this; exact this
theorem dec_zero : Lib.decDigits 0 = [48] := by rw [dec_rec, if_pos (by omega)]; rfl
theorem dec_all (u : Nat) : (Lib.decDigits u).all digB = true := by
  rw [List.all_eq_true]
  intro b hb
  have := dec_dig u b hb
  simp [digB, this.1, this.2]
theorem dec_ne (u : Nat) : Lib.decDigits u ≠ [] := fun e => by
  have h1 := Lib.decDigits_length u
  have h2 := Lib.nDigits_pos u
  rw [e] at h1
  simp at h1
  omega
theorem numV_dec (u m : Nat) (h : (Lib.decDigits u).length ≤ m) : numV (Lib.decDigits u) m = some u := by
  unfold numV
  rw [if_neg, if_pos (dec_all u), valL_dec]
  rintro (e | e | ⟨e1, e2⟩)
  · exact dec_ne u e
  · omega
  · by_cases hu : u = 0
    · subst hu; exact e2 dec_zero
    · exact dec_head u hu e1
theorem numV_itoa (n : Int) (h0 : 0 ≤ n) (h1 : n ≤ 1000000) : numV (Lib.itoa n) 9 = some n.toNat := by
  have hl := (itoa_len n h0 h1).1
  obtain ⟨u, rfl⟩ : ∃ u : Nat, n = u := ⟨n.toNat, by omega⟩
  rw [Lib.itoa_nonneg] at hl ⊢
  rw [numV_dec u 9 (by omega)]; rfl

theorem numsL_dec : ∀ (l : List (List UInt8)) (ns : List Nat), numsL l = some ns → l = ns.map Lib.decDigits
  | [], ns, h => by simp [numsL] at h; subst h; rfl
  | w :: r, ns, h => by
    unfold numsL at h
    cases hw : numV w 9 with
    | none => rw [hw] at h; cases h
    | some v =>
      rw [hw] at h
      cases hr : numsL r with
      | none => rw [hr] at h; cases h
      | some ms =>
        rw [hr] at h
        simp only [Option.map_some, Option.some.injEq] at h
        subst h
        rw [List.map_cons, (numV_some hw).1, ← numsL_dec r ms hr]
theorem itoa_dec (n : Nat) : Lib.itoa (n : Int) = Lib.decDigits n := Lib.itoa_nonneg n

/-- A piece that is an op is the op's text. -/
theorem opR_told (s : List UInt8) (o : BOp) (h : opRV s = (o, true)) : fitsB o = true ∧ toldL o = s := by
  unfold opRV at h
  have hj := join_spl 32 s
  have hne := spl_ne 32 s
  cases hL : spl 32 s with
  | nil => exact absurd hL hne
  | cons w r =>
    rw [hL] at h hj
    simp only [List.tail_cons, List.head?_cons, Option.getD_some] at h
    cases hn : numsL r with
    | none => rw [hn] at h; cases h
    | some ns =>
      rw [hn] at h
      simp only [Prod.mk.injEq] at h
      obtain ⟨ho, hf⟩ := h
      rw [ho] at hf
      refine ⟨hf, ?_⟩
      have hr := numsL_dec r ns hn
      rw [← hj, hr]
      clear hj hr hn hL hne
      have hb := fits_bnd hf
      obtain ⟨e0, e1, e2⟩ := argsL_eq o
      unfold pickO at ho
      unfold toldL
      split at ho
      · rename_i hc
        obtain ⟨rfl, hl⟩ := hc
        obtain rfl : ns = [] := List.eq_nil_of_length_eq_zero hl
        subst ho
        show wdOf 1 ++ argsL ⟨1, 0, 0⟩ (arOf 1) = _
        rw [show arOf 1 = 0 from rfl, e0, List.append_nil]
        rfl
      · split at ho
        · rename_i hc
          obtain ⟨rfl, hl⟩ := hc
          match ns, hl with
          | [n], _ =>
            subst ho
            simp only [List.getElem?_cons_zero, Option.getD_some] at e1 ⊢
            rw [show arOf 2 = 1 from rfl, e1, itoa_dec]
            simp [Lib.join]
        · split at ho
          · rename_i hc
            obtain ⟨rfl, hl⟩ := hc
            match ns, hl with
            | [n, m], _ =>
              subst ho
              simp only [List.getElem?_cons_zero, List.getElem?_cons_succ, Option.getD_some] at e2 ⊢
              rw [show arOf 3 = 2 from rfl, e2, itoa_dec, itoa_dec]
              simp [Lib.join]
          · split at ho
            · rename_i hc
              obtain ⟨rfl, hl⟩ := hc
              match ns, hl with
              | [n], _ =>
                subst ho
                simp only [List.getElem?_cons_zero, Option.getD_some] at e1 ⊢
                rw [show arOf 4 = 1 from rfl, e1, itoa_dec]
                simp [Lib.join]
            · split at ho
              · rename_i hc
                obtain ⟨rfl, hl⟩ := hc
                obtain rfl : ns = [] := List.eq_nil_of_length_eq_zero hl
                subst ho
                show wdOf 5 ++ argsL ⟨5, 0, 0⟩ (arOf 5) = _
                rw [show arOf 5 = 0 from rfl, e0, List.append_nil]
                rfl
              · subst ho
                exact absurd hb.1 (by decide)
/-- An op's text is the op. -/
theorem told_opR (o : BOp) (h : fitsB o = true) : opRV (toldL o) = (o, true) := by
  have hz := told_zero o h
  obtain ⟨h1, h2, h3, h4, h5, h6⟩ := fits_bnd h
  have ha := numV_itoa o.a h3 (by omega)
  have hb := numV_itoa o.b h5 h6
  have hk : o.k = 1 ∨ o.k = 2 ∨ o.k = 3 ∨ o.k = 4 ∨ o.k = 5 := by omega
  unfold opRV
  rw [told_parts o h]
  simp only [List.tail_cons, List.head?_cons, Option.getD_some]
  obtain ⟨k, a, b⟩ := o
  dsimp only at *
  rcases hk with rfl | rfl | rfl | rfl | rfl
  · obtain rfl := hz.1 rfl
    obtain rfl := hz.2 (by decide)
    rw [show arOf 1 = 0 from rfl]
    simp only [List.take_zero, List.map_nil, numsL]
    rw [show pickO (wdOf 1) [] = ⟨1, 0, 0⟩ by unfold pickO; rw [if_pos ⟨rfl, rfl⟩], h]
  · obtain rfl := hz.2 (by decide)
    rw [show arOf 2 = 1 from rfl]
    simp only [List.take_succ_cons, List.take_zero, List.map_cons, List.map_nil, numsL, ha, Option.map_some]
    rw [show pickO (wdOf 2) [a.toNat] = ⟨2, a, 0⟩ by
      unfold pickO
      rw [if_neg (fun hh => absurd hh.1 (by decide)), if_pos ⟨rfl, rfl⟩]
      simp only [List.getElem?_cons_zero, Option.getD_some]
      rw [Int.toNat_of_nonneg h3], h]
  · rw [show arOf 3 = 2 from rfl]
    simp only [List.take_succ_cons, List.take_zero, List.map_cons, List.map_nil, numsL, ha, hb, Option.map_some]
    rw [show pickO (wdOf 3) [a.toNat, b.toNat] = ⟨3, a, b⟩ by
      unfold pickO
      rw [if_neg (fun hh => absurd hh.1 (by decide)), if_neg (fun hh => absurd hh.1 (by decide)), if_pos ⟨rfl, rfl⟩]
      simp only [List.getElem?_cons_zero, List.getElem?_cons_succ, Option.getD_some]
      rw [Int.toNat_of_nonneg h3, Int.toNat_of_nonneg h5], h]
  · obtain rfl := hz.2 (by decide)
    rw [show arOf 4 = 1 from rfl]
    simp only [List.take_succ_cons, List.take_zero, List.map_cons, List.map_nil, numsL, ha, Option.map_some]
    rw [show pickO (wdOf 4) [a.toNat] = ⟨4, a, 0⟩ by
      unfold pickO
      rw [if_neg (fun hh => absurd hh.1 (by decide)), if_neg (fun hh => absurd hh.1 (by decide)), if_neg (fun hh => absurd hh.1 (by decide)), if_pos ⟨rfl, rfl⟩]
      simp only [List.getElem?_cons_zero, Option.getD_some]
      rw [Int.toNat_of_nonneg h3], h]
  · obtain rfl := hz.1 rfl
    obtain rfl := hz.2 (by decide)
    rw [show arOf 5 = 0 from rfl]
    simp only [List.take_zero, List.map_nil, numsL]
    rw [show pickO (wdOf 5) [] = ⟨5, 0, 0⟩ by unfold pickO; rw [if_neg (fun hh => absurd hh.1 (by decide)), if_neg (fun hh => absurd hh.1 (by decide)), if_neg (fun hh => absurd hh.1 (by decide)), if_neg (fun hh => absurd hh.1 (by decide)), if_pos ⟨rfl, rfl⟩], h]

def allR : List (List UInt8) → Option (List BOp)
  | [] => some []
  | x :: r => if (opRV x).2 then (allR r).map ((opRV x).1 :: ·) else none
theorem allR_told : ∀ (L : List (List UInt8)) (l : List BOp), allR L = some l → l.all fitsB = true ∧ l.map toldL = L
  | [], l, h => by simp [allR] at h; subst h; exact ⟨rfl, rfl⟩
  | x :: r, l, h => by
    unfold allR at h
    split at h
    · rename_i hx
      cases hr : allR r with
      | none => rw [hr] at h; cases h
      | some l' =>
        rw [hr] at h
        simp only [Option.map_some, Option.some.injEq] at h
        subst h
        have h1 := opR_told x (opRV x).1 (by rw [← hx])
        have h2 := allR_told r l' hr
        rw [List.all_cons, h1.1, h2.1, List.map_cons, h1.2, h2.2]
        exact ⟨rfl, rfl⟩
    · cases h
theorem told_allR : ∀ (l : List BOp), l.all fitsB = true → allR (l.map toldL) = some l
  | [], _ => rfl
  | o :: r, h => by
    rw [List.all_cons, Bool.and_eq_true] at h
    rw [List.map_cons, allR, told_opR o h.1, if_pos rfl, told_allR r h.2]; rfl
/-- The reference's body of a text: its ops and the number of the error. -/
def bodyR (s : List UInt8) : List BOp × Int :=
  if 400 < s.length then ([], 2)
  else if s = [45] then ([], 0)
  else match allR (spl 59 s) with
    | none => ([], 3)
    | some l => if l.length ≤ 16 then (l, 0) else ([], 3)
/-- The two bodies of a text are one. -/
theorem bodyR_eq (s : List UInt8) : bodyR s = parseV s := by
  unfold bodyR parseV
  split
  · rfl
  · split
    · rfl
    · have hne := spl_ne 59 s
      have hj := join_spl 59 s
      cases hr : allR (spl 59 s) with
      | some l =>
        obtain ⟨h1, h2⟩ := allR_told _ _ hr
        have hln : l ≠ [] := fun e => hne (by rw [← h2, e]; rfl)
        have ht : textL l = s := by unfold textL; rw [if_neg hln, h2, hj]
        rw [← h2, readAll_told l h1]
        simp only []
        by_cases h16 : l.length ≤ 16
        · rw [if_pos h16, if_pos ⟨by unfold okB; rw [decide_eq_true h16, h1]; rfl, ht⟩]
        · rw [if_neg h16, if_neg (fun h => h16 (by have := h.1; unfold okB at this; rw [Bool.and_eq_true, decide_eq_true_iff] at this; exact this.1))]
      | none =>
        simp only []
        cases hq : readAll (spl 59 s) with
        | none => rfl
        | some l =>
          simp only []
          rw [if_neg]
          rintro ⟨hok, ht⟩
          have hok' := hok
          unfold okB at hok'
          rw [Bool.and_eq_true] at hok'
          have hln : l ≠ [] := fun e => by
            have := readAll_len _ _ hq
            rw [e] at this
            exact hne (List.eq_nil_of_length_eq_zero this.symm)
          unfold textL at ht
          rw [if_neg hln] at ht
          have hs := spl_join 59 (l.map toldL) (by simp [hln]) (fun x hx => by
            obtain ⟨y, hy, rfl⟩ := List.mem_map.1 hx
            exact (told_fine y (List.all_eq_true.1 hok'.2 y hy)).1)
          rw [ht] at hs
          rw [hs, told_allR l hok'.2] at hr
          cases hr
end Go.Proofs.YtgiimmiandhkhaaDoor
