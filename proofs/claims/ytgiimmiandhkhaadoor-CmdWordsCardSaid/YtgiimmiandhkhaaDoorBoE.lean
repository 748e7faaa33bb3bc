/- The bodies: texts cut at a byte; numbers read. -/
import Derived.Test.YtgiimmiandhkhaaDoorProg
import Derived.Test.YtgiimmiandhkhaaDoorBoD
import Derived.Lib.SplitLaws
namespace Go.Proofs.YtgiimmiandhkhaaDoor
open Go.RowKit
set_option linter.unusedSimpArgs false
set_option linter.unusedVariables false

def consHd (b : UInt8) : List (List UInt8) → List (List UInt8)
  | [] => [[b]]
  | x :: r => (b :: x) :: r
/-- A text cut at each c. -/
def spl (c : UInt8) : List UInt8 → List (List UInt8)
  | [] => [[]]
  | b :: l => if b = c then [] :: spl c l else consHd b (spl c l)

theorem index_one_eq (c : UInt8) (l : List UInt8) : Lib.index (c :: l) [c] = ((0 : Nat) : Int) := by rw [Lib.index]; simp [List.isPrefixOf]
theorem index_one_ne {b c : UInt8} (l : List UInt8) (h : b ≠ c) : Lib.index (b :: l) [c] = if Lib.index l [c] == -1 then -1 else Lib.index l [c] + 1 := by
  have hp : ([c] : List UInt8).isPrefixOf (b :: l) = false := by simp [List.isPrefixOf, Ne.symm h]
  rw [Lib.index, hp]; simp
theorem splitK_eq (c : UInt8) (k : Nat) (l : List UInt8) : Lib.splitK [c] 0 (k + 1) (c :: l) = [] :: Lib.splitK [c] 0 k l := by
  rw [Lib.splitK, index_one_eq]; rfl
theorem splitK_ne {b c : UInt8} (h : b ≠ c) (k : Nat) (l : List UInt8) : Lib.splitK [c] 0 k (b :: l) = consHd b (Lib.splitK [c] 0 k l) := by
  cases k with
  | zero => rfl
  | succ k =>
    rw [Lib.splitK, Lib.splitK, index_one_ne l h]
    have hge := Lib.index_ge l [c]
    by_cases hm : Lib.index l [c] = -1
    · rw [hm]; rfl
    · obtain ⟨j, hj⟩ : ∃ j : Nat, Lib.index l [c] = j := ⟨(Lib.index l [c]).toNat, by omega⟩
      have hj' : Lib.index l [c] + 1 = ((j + 1 : Nat) : Int) := by omega
      have n1 : ¬ ((Lib.index l [c] == -1) = true) := by simp [hm]
      rw [if_neg n1, if_neg n1, hj', hj]
      have n2 : ¬ ((((j + 1 : Nat) : Int) == -1) = true) := by rw [beq_iff_eq]; omega
      rw [if_neg n2]
      simp [consHd]
theorem splitK_spl (c : UInt8) : ∀ l : List UInt8, Lib.splitK [c] 0 (Lib.count l [c]) l = spl c l
  | [] => by rw [Lib.count_miss (by simp [Lib.index])]; rfl
  | b :: l => by
    by_cases h : b = c
    · subst h
      rw [Lib.count_cons_eq, Nat.add_comm, splitK_eq, splitK_spl b l, spl, if_pos rfl]
    · rw [Lib.count_cons_ne b c l h, splitK_ne h, splitK_spl c l, spl, if_neg h]

theorem consHd_ne (b : UInt8) (l : List (List UInt8)) : consHd b l ≠ [] := by cases l <;> simp [consHd]
theorem spl_ne (c : UInt8) (l : List UInt8) : spl c l ≠ [] := by
  cases l with
  | nil => simp [spl]
  | cons b l =>
    unfold spl
    split
    · simp
    · exact consHd_ne _ _
theorem spl_mem (c : UInt8) : ∀ (l : List UInt8), ∀ x ∈ spl c l, x.length ≤ l.length ∧ c ∉ x
  | [], x, hx => by
    simp only [spl, List.mem_singleton] at hx
    subst hx; simp
  | b :: l, x, hx => by
    unfold spl at hx
    by_cases h : b = c
    · rw [if_pos h] at hx
      rcases List.mem_cons.1 hx with rfl | hx
      · simp
      · have := spl_mem c l x hx
        exact ⟨by simp; omega, this.2⟩
    · rw [if_neg h] at hx
      have ih := spl_mem c l
      cases hs : spl c l with
      | nil => exact absurd hs (spl_ne c l)
      | cons y r =>
        rw [hs] at hx ih
        simp only [consHd, List.mem_cons] at hx
        rcases hx with rfl | hx
        · have := ih y (by simp)
          exact ⟨by simp; omega, by simp [Ne.symm h, this.2]⟩
        · have := ih x (by simp [hx])
          exact ⟨by simp; omega, this.2⟩
/-- What was cut comes together again. -/
theorem join_spl (c : UInt8) : ∀ l : List UInt8, Lib.join (spl c l) [c] = l
  | [] => rfl
  | b :: l => by
    unfold spl
    have ih := join_spl c l
    cases hs : spl c l with
    | nil => exact absurd hs (spl_ne c l)
    | cons y r =>
      rw [hs] at ih
      rw [Lib.join_cons] at ih
      by_cases h : b = c
      · rw [if_pos h, Lib.join_cons]
        subst h
        simp only [Lib.joinTail, List.map_cons, List.flatten_cons, List.nil_append]
        rw [List.append_assoc]
        show [b] ++ (y ++ Lib.joinTail [b] r) = _
        rw [ih]; rfl
      · rw [if_neg h]
        simp only [consHd]
        rw [Lib.join_cons, List.cons_append, ih]
/-- What came together is cut so again. -/
theorem spl_app (c : UInt8) (x : List UInt8) (h : c ∉ x) (l : List UInt8) : spl c (x ++ c :: l) = x :: spl c l := by
  induction x with
  | nil => simp [spl]
  | cons b x ih =>
    have hb : ¬ b = c := fun e => h (by simp [e])
    rw [List.cons_append, spl, if_neg hb, ih (fun e => h (by simp [e]))]
    rfl
theorem spl_no (c : UInt8) (x : List UInt8) (h : c ∉ x) : spl c x = [x] := by
  induction x with
  | nil => rfl
  | cons b x ih =>
    have hb : ¬ b = c := fun e => h (by simp [e])
    rw [spl, if_neg hb, ih (fun e => h (by simp [e]))]
    rfl
theorem spl_join (c : UInt8) : ∀ (xs : List (List UInt8)), xs ≠ [] → (∀ x ∈ xs, c ∉ x) → spl c (Lib.join xs [c]) = xs
  | [], h, _ => absurd rfl h
  | [x], _, h => by rw [Lib.join_one, spl_no c x (h x (by simp))]
  | x :: y :: r, _, h => by
    have ih := spl_join c (y :: r) (by simp) (fun z hz => h z (by simp [hz]))
    have : Lib.join (x :: y :: r) [c] = x ++ c :: Lib.join (y :: r) [c] := by
      rw [Lib.join_cons, Lib.join_cons]
      simp [Lib.joinTail]
    rw [this, spl_app c x (h x (by simp)), ih]

/-- What Atoi hands back as the number. -/
def atV (s : List UInt8) : Int := match Lib.atoiAll s with | .ok v => v | .«syntax» => 0 | .range => Lib.atoiSat s
theorem bytes_ext (w : World) (e : TypeId) (s : ByteArray) : Ext NoB w (Lib.bytesWorld w e s) :=
  Ext.of_below (Lib.bytesWorld_below w e s)
theorem atoi_calls (s : ByteArray) (hs : s.size ≤ 281474976710656) (w : World) (hG : Gl w) :
    Calls Tryd.prog 62 #[.string s] w fun e w' => ∃ ev, e = .returned (.tuple #[.int .i64 (atV s.data.toList), ev]) ∧ Ext NoB w w' := by
  obtain ⟨es, hes, hes'⟩ := hG.syn
  obtain ⟨er, her, her'⟩ := hG.rng
  cases h : Lib.atoiAll s.data.toList with
  | ok v =>
    refine (Tryd.strconv_Atoi_ok s (by omega) v h w).mono ?_
    rintro e w' ⟨rfl, hw⟩
    refine ⟨_, by unfold atV; rw [h], ?_⟩
    rcases hw with rfl | ⟨t, rfl⟩
    · exact Ext.refl _ _
    · exact bytes_ext w _ t
  | «syntax» =>
    refine (Tryd.strconv_Atoi_syntax s hs h es w hes hes').mono ?_
    rintro e w' ⟨N, rfl, _, _, hb⟩
    exact ⟨_, by unfold atV; rw [h], Ext.of_below hb⟩
  | range =>
    refine (Tryd.strconv_Atoi_range s hs h er w her her').mono ?_
    rintro e w' ⟨N, rfl, _, _, hb⟩
    exact ⟨_, by unfold atV; rw [h], Ext.of_below hb⟩

theorem split_calls (s : ByteArray) (c : UInt8) (hs : s.size < 4294967281) (w : World) (hG : Gl w) :
    Calls Tryd.prog 12 #[.string s, .string ⟨#[c]⟩] w fun e w' => ∃ (b : Nat) (B : List ByteArray), e = .returned (.slice (some ⟨b, 0, none⟩) B.length B.length) ∧ B.map (fun x => x.data.toList) = spl c s.data.toList ∧ SlR w' 1 strE (some ⟨b, 0, none⟩) B.length b 0 B ∧ Ext NoB w w' := by
  obtain ⟨m, hm⟩ := hG.len
  refine (Tryd.strings_Split s ⟨#[c]⟩ m w hs hm (Nat.le_refl 1)).mono ?_
  rintro e w' ⟨rfl, rfl⟩
  have hlen := Lib.splitB_all ⟨#[c]⟩ (Nat.le_refl 1) 0 _ s rfl
  have hdat := Lib.splitB_data ⟨#[c]⟩ 0 (Lib.countB s ⟨#[c]⟩) s
  refine ⟨w.heap.size, Lib.splitB ⟨#[c]⟩ 0 (Lib.countB s ⟨#[c]⟩) s, by rw [hlen], ?_, ?_, (Ext.refl NoB w).alloc _⟩
  · rw [hdat]; exact splitK_spl c s.data.toList
  · refine ⟨fun _ => rfl, Nat.le_refl _, ?_, ?_⟩
    · rw [hlen]
      have := Lib.countB_le ⟨#[c]⟩ (Nat.le_refl 1) s.size s (Nat.le_refl _)
      unfold maxLen
      omega
    · intro j u hu
      rw [cell_of_row _ w.heap.size (0 + j) _ _ (0, 0) (alloc_at w _)]
      have he : (Lib.splitB ⟨#[c]⟩ 0 (Lib.countB s ⟨#[c]⟩) s).flatMap strE = (Lib.splitB ⟨#[c]⟩ 0 (Lib.countB s ⟨#[c]⟩) s).map Value.string := by
        generalize Lib.splitB ⟨#[c]⟩ 0 (Lib.countB s ⟨#[c]⟩) s = B
        induction B with
        | nil => rfl
        | cons x B ih => simp [strE] at ih ⊢; exact ih
      rw [he] at hu
      simpa using hu
end Go.Proofs.YtgiimmiandhkhaaDoor
