/- The bodies: Parse. -/
import Derived.Test.YtgiimmiandhkhaaDoorProg
import Derived.Test.YtgiimmiandhkhaaDoorBoF
import Derived.Test.YtgiimmiandhkhaaDoorBoL
import Derived.Laws.ResultCell
import Derived.RangeFuncCalls
namespace Go.Proofs.YtgiimmiandhkhaaDoor
open Go.RowKit
set_option linter.unusedSimpArgs false
set_option linter.unusedVariables false

theorem seq0_calls (s sep : ByteArray) (w : World) :
    Calls Tryd.prog 61 #[.string s, .string sep, .int .i64 0] w fun e w' => e = .returned (.func (.func 78) #[] #[.pointer (some ⟨w.heap.size + 1, 0, none⟩), .pointer (some ⟨w.heap.size, 0, none⟩), .pointer (some ⟨w.heap.size + 2, 0, none⟩)]) ∧
      w' = ((w.alloc (.cells #[.string s] 9)).alloc (.cells #[.string sep] 9)).alloc (.cells #[.int .i64 0] 3) := by
  go_enter Tryd.func61, Tryd.ntmps61
  go_wp2_with fail
  go_ret
  exact ⟨rfl, rfl⟩
theorem seq_calls (s sep : ByteArray) (w : World) :
    Calls Tryd.prog 45 #[.string s, .string sep] w fun e w' => e = .returned (.func (.func 78) #[] #[.pointer (some ⟨w.heap.size + 1, 0, none⟩), .pointer (some ⟨w.heap.size, 0, none⟩), .pointer (some ⟨w.heap.size + 2, 0, none⟩)]) ∧
      w' = ((w.alloc (.cells #[.string s] 9)).alloc (.cells #[.string sep] 9)).alloc (.cells #[.int .i64 0] 3) := by
  go_enter Tryd.func45, Tryd.ntmps45
  go_wp2_with fail
  refine (seq0_calls s sep w).mono ?_
  rintro e w' ⟨rfl, hw⟩
  go_wp2_with fail
  go_ret
  exact ⟨rfl, rfl⟩

def readAll : List (List UInt8) → Option (List BOp)
  | [] => some []
  | x :: r => if (readS x).2 then (readAll r).map ((readS x).1 :: ·) else none
/-- The body of a text: its ops and the number of the error. -/
def parseV (s : List UInt8) : List BOp × Int :=
  if 400 < s.length then ([], 2)
  else if s = [45] then ([], 0)
  else match readAll (spl 59 s) with
    | none => ([], 3)
    | some l => if okB l = true ∧ textL l = s then (l, 0) else ([], 3)
theorem str_ne_toList {a b : ByteArray} (h : a ≠ b) : (a.toList == b.toList) = false := by
  rw [beq_eq_false_iff_ne]
  intro e
  exact h (str_of_toList (by rw [e]; simp))

theorem clip_calls (A : Option Addr) (n c : Nat) (hn : n ≤ c) (hc : c ≤ maxLen) (w : World) :
    Calls Tryd.prog 47 #[.slice A n c] w fun e w' => e = .returned (.slice A n n) ∧ w' = w := by
  unfold maxLen at hc
  go_enter Tryd.func47, Tryd.ntmps47
  go_wp2_with fail
  go_ret
  refine ⟨?_, rfl⟩
  simp [Addr.add]

theorem readAll_len : ∀ (L : List (List UInt8)) (l : List BOp), readAll L = some l → l.length = L.length
  | [], l, h => by simp [readAll] at h; subst h; rfl
  | x :: r, l, h => by
    unfold readAll at h
    split at h
    · cases hr : readAll r with
      | none => rw [hr] at h; simp at h
      | some l' =>
        rw [hr] at h
        simp only [Option.map_some, Option.some.injEq] at h
        subst h
        simp [readAll_len r l' hr]
    · cases h
theorem readAll_snoc : ∀ (L : List (List UInt8)) (l : List BOp) (x : List UInt8), readAll L = some l → (readS x).2 = true → readAll (L ++ [x]) = some (l ++ [(readS x).1])
  | [], l, x, h, hx => by simp [readAll] at h; subst h; simp [readAll, hx]
  | y :: r, l, x, h, hx => by
    unfold readAll at h
    split at h
    · rename_i hy
      cases hr : readAll r with
      | none => rw [hr] at h; simp at h
      | some l' =>
        rw [hr] at h
        simp only [Option.map_some, Option.some.injEq] at h
        subst h
        rw [List.cons_append, readAll, if_pos hy, readAll_snoc r l' x hr hx]; rfl
    · cases h
theorem readAll_bad : ∀ (L : List (List UInt8)) (x : List UInt8) (t : List (List UInt8)), (readS x).2 = false → readAll (L ++ x :: t) = none
  | [], x, t, hx => by simp [readAll, hx]
  | y :: r, x, t, hx => by
    rw [List.cons_append, readAll, readAll_bad r x t hx]
    split <;> rfl
theorem spl_len (c : UInt8) : ∀ l : List UInt8, (spl c l).length ≤ l.length + 1
  | [] => by simp [spl]
  | b :: l => by
    have ih := spl_len c l
    unfold spl
    split
    · simp; omega
    · cases h : spl c l with
      | nil => simp [consHd]
      | cons y r => rw [h] at ih; simp [consHd] at ih ⊢; omega

theorem wpListIn_appendO {F : Fence} {n : Nat} {P : Program} {w : World} {α : Type} {E : TypeId} {k : Nat} {enc : α → List Value} {g : Option Nat} {v : Value} {xs : List α} {ops : Array Oper} {rest : List Oper} {o : Oper} {a : Act} {Q : Exit → Act → World → Prop} (hgd : o.guard = none) {S : TypeId} {s x : Operand} (ho : o.op = .call { callee := .builtin .append, args := #[s, x], argTypes := #[S, S] })
    {bytes : Nat} (ET : ElemT P S E k bytes) (hk : ∀ x, (enc x).length = k) (h1 : ∀ x, ∀ u ∈ enc x, u.oneCell' = true) (h : SlO w E k enc g v xs) (hv : a.eval s = v)
    {As : Option Addr} {cs bs os m : Nat} {ys : List α} (hy : SlR w k enc As cs bs os ys) (hx : a.eval x = .slice As m cs) (hml : m = ys.length) (hb : (xs.length + ys.length) * bytes ≤ 140737488355328) (hm : xs.length + ys.length ≤ maxLen)
    (hK : ∀ v' w' g', SlO w' E k enc g' v' (xs ++ ys) → Ext (fun b => g = some b) w w' → (g' = g ∨ g' = some w.heap.size) → wpListIn F n P ops Q rest (a.put o.dst v') w') : wpListIn F n P ops Q (o :: rest) a w := by
  refine wpListIn_plain hgd fun K' hK' => ?_
  subst hml
  obtain ⟨v', w', g', hrun, h2, h3, h4⟩ := h.run_append ET hk h1 hy hb hm o.type
  unfold Oper.wpIn
  refine ⟨?_, ?_⟩
  · simp [Oper.about, ho, resolve, Target.leads, Sem.run_pure]
  · rw [Oper.semAt_plain F _ _ (by rw [ho]; intro c hc'; cases hc')]
    simp [execOp, ho, resolve, invoke, builtin, hv, hx, hrun, Result.andThen]
    exact hK' _ _ (hK v' w' g' h2 h3 h4)

theorem SlO.clip {w : World} {α : Type} {E : TypeId} {k : Nat} {enc : α → List Value} {g : Option Nat} {A : Option Addr} {n c : Nat} {xs : List α} (h : SlO w E k enc g (.slice A n c) xs) : SlO w E k enc g (.slice A n n) xs := by
  rcases h with ⟨h, h2, h3⟩ | ⟨b, o, c', cur, hg, hv, hh, hl, hm, hc, ht⟩
  · cases h
    exact .inl ⟨rfl, h2, h3⟩
  · simp only [Value.slice.injEq] at hv
    obtain ⟨rfl, rfl, rfl⟩ := hv
    have hle := Nat.mul_le_mul_right k hl
    exact .inr ⟨b, o, xs.length, cur, hg, rfl, hh, Nat.le_refl _, by omega, by omega, ht⟩
theorem ext_cell (w : World) (b : Nat) (v : Value) : Ext (· = b) w (w.setCell ⟨b, 0, none⟩ v) := (Ext.refl (· = b) w).setCell (fun _ => rfl) _
attribute [local go_sem] Oper.semAt_some
set_option maxRecDepth 100000 in
set_option maxHeartbeats 4000000 in
theorem parse_calls (s : ByteArray) (w : World) (hG : Gl w) :
    Calls Tryd.prog 30 #[.string s] w fun e w' => ∃ v g, e = .returned (.tuple #[v, .int .i64 (parseV s.data.toList).2]) ∧ SlO w' 81 3 opB g v (parseV s.data.toList).1 ∧ Ext NoB w w' ∧ (∀ q, g = some q → w.heap.size ≤ q) := by
  refine (callsIn_wide (n := 100)).1 ?_
  generalize hRd : parseV s.data.toList = R
  have hRd := Lib.hid hRd
  refine callsIn_of_wp_marks Tryd.func30 rfl trivial ?_ rfl
  simp only [Tryd.ntmps30, List.size_toArray, List.length_cons, List.length_nil, Nat.reduceAdd, Nat.reduceSub, Array.replicate_succ, Array.replicate_zero, List.push_toArray, List.append_toArray, List.nil_append, List.cons_append]
  have hsz : s.data.toList.length = s.size := by rw [Array.length_toList]; rfl
  by_cases h400 : 400 < s.size
  · have t0 : decide (400 < s.size) = true := by simp [h400]
    have t0' : decide ((400 : Int) < s.size) = true := by simp; omega
    have hv : Hid (R = ([], 2)) := by show _ = _; rw [← hRd.out]; unfold parseV; rw [if_pos (by omega)]
    gi_wp2
    refine ⟨.tuple #[.slice none 0 0, .int .i64 2], ?_, .slice none 0 0, none, by rw [hv.out], ?_, ((Ext.refl NoB w).alloc _).alloc _, by simp⟩
    · have q0 : ((w.alloc (.cells #[.slice none 0 0] 26)).alloc (.cells #[.int .i64 2] 30)).cell? ⟨w.heap.size, 0, none⟩ = some (.slice none 0 0) := Ext.cell ((Ext.refl NoB _).alloc _) (one_at w _ _) nb
      have q1 : ((w.alloc (.cells #[.slice none 0 0] 26)).alloc (.cells #[.int .i64 2] 30)).cell? ⟨w.heap.size + 1, 0, none⟩ = some (.int .i64 2) := by
        have := one_at (w.alloc (.cells #[.slice none 0 0] 26)) (.int .i64 2) 30
        rwa [World.size_alloc] at this
      simp [results, Tryd.f30, go_sem, asAddr, q0, q1]
    · rw [hv.out]; exact SlO.nil _ _ _ _
  · have t0 : decide (400 < s.size) = false := by simp; omega
    have t0' : decide ((400 : Int) < s.size) = false := by simp; omega
    by_cases hd : s.data.toList = [45]
    · have hse : s = ⟨#[45]⟩ := by apply ByteArray.ext; apply Array.toList_inj.1; exact hd
      have hv : Hid (R = ([], 0)) := by show _ = _; rw [← hRd.out]; unfold parseV; rw [if_neg (by omega), if_pos hd]
      have t1 : (s.toList == [45]) = true := by rw [ByteArray.toList_eq, hd]; rfl
      gi_wp2
      refine ⟨.tuple #[.slice none 0 0, .int .i64 0], ?_, .slice none 0 0, none, by rw [hv.out], ?_, ((Ext.refl NoB w).alloc _).alloc _, by simp⟩
      · have q0 : ((w.alloc (.cells #[.slice none 0 0] 26)).alloc (.cells #[.int .i64 0] 30)).cell? ⟨w.heap.size, 0, none⟩ = some (.slice none 0 0) := Ext.cell ((Ext.refl NoB _).alloc _) (one_at w _ _) nb
        have q1 : ((w.alloc (.cells #[.slice none 0 0] 26)).alloc (.cells #[.int .i64 0] 30)).cell? ⟨w.heap.size + 1, 0, none⟩ = some (.int .i64 0) := by
          have := one_at (w.alloc (.cells #[.slice none 0 0] 26)) (.int .i64 0) 30
          rwa [World.size_alloc] at this
        simp [results, Tryd.f30, go_sem, asAddr, q0, q1]
      · rw [hv.out]; exact SlO.nil _ _ _ _
    · have t1 : (s.toList == [45]) = false := by rw [ByteArray.toList_eq, beq_eq_false_iff_ne]; exact hd
      gi_wp2
      refine ⟨trivial, callsIn_wide.2 ((seq_calls s ⟨#[59]⟩ _).mono ?_)⟩
      rintro e W0 ⟨rfl, hW0⟩
      simp only [World.size_alloc] at hW0 ⊢
      have hsW : W0.heap.size = w.heap.size + 6 := by rw [hW0]; simp
      have k1 : W0.heap[w.heap.size]? = some (.cells #[.slice none 0 0] 26 (0, 0)) := by rw [hW0]; exact ((((((Ext.refl NoB _).alloc _).alloc _).alloc _).alloc _).alloc _).keep (alloc_at w _) nb
      have k2 : W0.heap[w.heap.size + 1]? = some (.cells #[.int .i64 0] 30 (0, 0)) := by rw [hW0]; exact (((((Ext.refl NoB _).alloc _).alloc _).alloc _).alloc _).keep (alloc_at' _ _ _ (by simp)) nb
      have k3 : W0.heap[w.heap.size + 1 + 1]? = some (.cells #[.slice none 0 0] 26 (0, 0)) := by rw [hW0]; exact ((((Ext.refl NoB _).alloc _).alloc _).alloc _).keep (alloc_at' _ _ _ (by simp)) nb
      have k4 : W0.heap[w.heap.size + 1 + 1 + 1]? = some (.cells #[.string s] 9 (0, 0)) := by rw [hW0]; exact (((Ext.refl NoB _).alloc _).alloc _).keep (alloc_at' _ _ _ (by simp)) nb
      have k5 : W0.heap[w.heap.size + 1 + 1 + 1 + 1]? = some (.cells #[.string ⟨#[59]⟩] 9 (0, 0)) := by rw [hW0]; exact ((Ext.refl NoB _).alloc _).keep (alloc_at' _ _ _ (by simp)) nb
      have k6 : W0.heap[w.heap.size + 1 + 1 + 1 + 2]? = some (.cells #[.int .i64 0] 3 (0, 0)) := by rw [hW0]; exact alloc_at' _ _ _ (by simp)
      have x0 : Ext NoB w W0 := by rw [hW0]; exact ((((((Ext.refl NoB w).alloc _).alloc _).alloc _).alloc _).alloc _).alloc _
      clear hW0
      obtain ⟨L, hL⟩ : ∃ L, spl 59 s.data.toList = L := ⟨_, rfl⟩
      have hLl : L.length ≤ 401 := by rw [← hL]; have := spl_len 59 s.data.toList; omega
      have hv : Hid (R = match readAll L with | none => ([], 3) | some l => if okB l = true ∧ textL l = s.data.toList then (l, 0) else ([], 3)) := by
        show _ = _
        rw [← hRd.out]
        unfold parseV
        rw [if_neg (by omega), if_neg hd, hL]
      gi_wp2
      refine rf_split 100 17 (w.heap.size + 1 + 1 + 1 + 1) (w.heap.size + 1 + 1 + 1) (w.heap.size + 1 + 1 + 1 + 2) (by omega) (by omega) (by omega) (by omega) (by omega) rfl s (by omega) L hL (cell_of_row W0 _ 0 _ _ (0, 0) k5) (cell_of_row W0 _ 0 _ _ (0, 0) k4) (by simp [World.frozen?, k4]) (cell_of_row W0 _ 0 _ _ (0, 0) k6)
        (fun pre W => ∃ l v g, readAll (pre.map (fun y => y.data.toList)) = some l ∧ W.heap[w.heap.size + 1 + 1]? = some (.cells #[v] 26 (0, 0)) ∧ SlO W 81 3 opB g v l ∧ (∀ q, g = some q → w.heap.size + 8 ≤ q) ∧ W.heap[w.heap.size]? = some (.cells #[.slice none 0 0] 26 (0, 0)) ∧ W.heap[w.heap.size + 1]? = some (.cells #[.int .i64 0] 30 (0, 0)) ∧ Ext NoB w W)
        (fun W => readAll L = none ∧ W.heap[w.heap.size]? = some (.cells #[.slice none 0 0] 26 (0, 0)) ∧ W.heap[w.heap.size + 1]? = some (.cells #[.int .i64 3] 30 (0, 0)) ∧ Ext NoB w W)
        ?hI ?hIx ?h0 (fun x => { tmps := #[.string s, undef, .pointer (some ⟨w.heap.size, 0, none⟩), .pointer (some ⟨w.heap.size + 1, 0, none⟩), .pointer (some ⟨w.heap.size + 1 + 1, 0, none⟩), .string x, undef, undef, undef, undef, .string s, .int .i64 s.size, .bool false, .string s, .bool false, .string s, .func (.func 78) #[] #[.pointer (some ⟨w.heap.size + 1 + 1 + 1 + 1, 0, none⟩), .pointer (some ⟨w.heap.size + 1 + 1 + 1, 0, none⟩), .pointer (some ⟨w.heap.size + 1 + 1 + 1 + 2, 0, none⟩)], .string x, undef, undef, undef, undef, undef, undef, undef, undef, undef, undef, undef, undef, undef, undef, undef, undef, undef, undef, undef, undef, undef, undef, undef, undef, undef], defers := [] }) ?assign ?body ?done ?stop
      case hI =>
        rintro pre W W' ⟨l, v, g, h1, h2, h3, h4, h5, h6, h7⟩ x
        exact ⟨l, v, g, h1, x.keep h2 (by omega), h3.keep x (fun q hq => by have := h4 q hq; omega), h4, x.keep h5 (by omega), x.keep h6 (by omega), h7.trans x (fun i hi e => by omega)⟩
      case hIx =>
        rintro W W' ⟨h1, h5, h6, h7⟩ x
        exact ⟨h1, x.keep h5 (by omega), x.keep h6 (by omega), h7.trans x (fun i hi e => by omega)⟩
      case h0 => exact ⟨[], .slice none 0 0, none, rfl, k3, SlO.nil _ _ _ _, by simp, k1, k2, x0⟩
      case assign =>
        intro l x W K hK
        gi_wp2
        exact hK
      case body =>
        rintro l pre x tl W ⟨ls, v, g, h1, h2, h3, h4, h5, h6, h7⟩ hsz2 hpre
        have hxs : x.size < 4294967281 := by
          have hm : x.data.toList ∈ spl 59 s.data.toList := by rw [hL, ← hpre]; simp
          have := (spl_mem 59 _ _ hm).1
          have e1 : x.data.toList.length = x.size := by rw [Array.length_toList]; rfl
          omega
        gi_wp2
        refine ⟨trivial, CallsIn.inRound l (callsIn_wide.2 ((read_calls x W (hG.keep h7) hxs).mono ?_))⟩
        rintro e W2 ⟨rfl, hx2⟩
        have hbad := readAll_bad (pre.map (fun y => y.data.toList)) x.data.toList tl
        rw [hpre] at hbad
        have hgood := readAll_snoc (pre.map (fun y => y.data.toList)) ls x.data.toList h1
        have hll := readAll_len _ _ h1
        rw [List.length_map] at hll
        have hpl : pre.length + 1 ≤ L.length := by rw [← hpre]; simp
        generalize readS x.data.toList = ro at *
        obtain ⟨o, ok⟩ := ro
        dsimp only at *
        have y1 : ∀ ob, (W2.alloc ob).heap[w.heap.size]? = some (.cells #[.slice none 0 0] 26 (0, 0)) := fun ob => (hx2.alloc ob).keep h5 nb
        have y2 : ∀ ob, (W2.alloc ob).heap[w.heap.size + 1]? = some (.cells #[.int .i64 0] 30 (0, 0)) := fun ob => (hx2.alloc ob).keep h6 nb
        have y3 : ∀ ob, (W2.alloc ob).heap[w.heap.size + 1 + 1]? = some (.cells #[v] 26 (0, 0)) := fun ob => (hx2.alloc ob).keep h2 nb
        have d1 : ∀ ob, (W2.alloc ob).cell? ⟨w.heap.size, 0, none⟩ = some (.slice none 0 0) := fun ob => cell_of_row _ _ 0 _ _ (0, 0) (y1 ob)
        have d2 : ∀ ob, (W2.alloc ob).cell? ⟨w.heap.size + 1, 0, none⟩ = some (.int .i64 0) := fun ob => cell_of_row _ _ 0 _ _ (0, 0) (y2 ob)
        have d3 : ∀ ob, (W2.alloc ob).cell? ⟨w.heap.size + 1 + 1, 0, none⟩ = some v := fun ob => cell_of_row _ _ 0 _ _ (0, 0) (y3 ob)
        have z1 : ∀ ob, (W2.alloc ob).frozen? ⟨w.heap.size, 0, none⟩ = false := fun ob => by simp only [World.frozen?, y1 ob]; rfl
        have z2 : ∀ ob, (W2.alloc ob).frozen? ⟨w.heap.size + 1, 0, none⟩ = false := fun ob => by simp only [World.frozen?, y2 ob]; rfl
        have h2w := hx2.size
        cases ok with
        | false =>
          have hnone := hbad rfl
          clear hbad hgood
          gi_wp2
          have x3 : Ext NoB W (W2.alloc (.cells #[.int .i64 o.k, .int .i64 o.a, .int .i64 o.b] 81)) := hx2.alloc _
          have e1 := y1 (.cells #[.int .i64 o.k, .int .i64 o.a, .int .i64 o.b] 81)
          have e2 := y2 (.cells #[.int .i64 o.k, .int .i64 o.a, .int .i64 o.b] 81)
          generalize W2.alloc (.cells #[.int .i64 o.k, .int .i64 o.a, .int .i64 o.b] 81) = W3 at *
          have x4 : Ext (· = w.heap.size) W3 (W3.setCell ⟨w.heap.size, 0, none⟩ (.slice none 0 0)) := ext_cell W3 _ _
          have f1 := heap_setCell_same W3 w.heap.size 0 _ _ (.slice none 0 0) e1
          have f2 := x4.keep e2 (by omega)
          generalize W3.setCell ⟨w.heap.size, 0, none⟩ (.slice none 0 0) = W4 at *
          have x5 : Ext (· = w.heap.size + 1) W4 (W4.setCell ⟨w.heap.size + 1, 0, none⟩ (.int .i64 3)) := ext_cell W4 _ _
          have x6 := (((ext_wk (G := fun i => i ≠ w.heap.size + 1 + 1 + 1 + 1 ∧ i ≠ w.heap.size + 1 + 1 + 1 ∧ i ≠ w.heap.size + 1 + 1 + 1 + 2 ∧ i ≠ W0.heap.size ∧ i ≠ W0.heap.size + 1) x3 (fun _ e => e.elim)).trans x4 (fun i _ e => by omega)).trans x5 (fun i _ e => by omega))
          exact ⟨x6, hnone, x5.keep f1 (by omega), heap_setCell_same W4 (w.heap.size + 1) 0 _ _ (.int .i64 3) f2, ((h7.trans x3 (fun _ _ e => e)).trans x4 (fun i hi e => by omega)).trans x5 (fun i hi e => by omega)⟩
        | true =>
          have hsome := hgood rfl
          clear hbad hgood
          have hb1 : (ls.length + 1) * 24 ≤ 140737488355328 := by omega
          have hb2 : ls.length + 1 ≤ maxLen := by unfold maxLen; omega
          gi_wp2_with (gi_at_builtin; refine wpListIn_appendO (ys := [o]) rfl rfl elem_op opB_len opB_one (h3.keep ((hx2.alloc _).alloc _) (fun _ _ => nb)) rfl (SlR.one' (alloc_at' _ _ _ (by simp)) rfl) rfl rfl hb1 hb2 (fun v' W5 g' hO' hx5 hg' => ?_); have n3 := hx5.keep (((hx2.alloc _).alloc _).keep h2 nb) (fun e => by have := h4 _ e; omega); have n3c := cell_of_row W5 _ 0 _ _ (0, 0) n3; have n3f : W5.frozen? ⟨w.heap.size + 1 + 1, 0, none⟩ = false := (by simp only [World.frozen?, n3]; rfl); obtain ⟨A5, c5, b5, o5, rfl, hr5, hg5⟩ := hO'.read; generalize hn5 : (ls ++ [o]).length = n5 at *)
          have x5 : Ext (· = w.heap.size + 1 + 1) W5 (W5.setCell ⟨w.heap.size + 1 + 1, 0, none⟩ (.slice A5 n5 c5)) := ext_cell W5 _ _
          have hx25 := (hx2.alloc (.cells #[.int .i64 o.k, .int .i64 o.a, .int .i64 o.b] 81)).alloc (.cells #[.int .i64 o.k, .int .i64 o.a, .int .i64 o.b] 81)
          generalize (W2.alloc (.cells #[.int .i64 o.k, .int .i64 o.a, .int .i64 o.b] 81)).alloc (.cells #[.int .i64 o.k, .int .i64 o.a, .int .i64 o.b] 81) = W3 at *
          have hg8 : ∀ q, g' = some q → w.heap.size + 8 ≤ q := fun q hq => by
            rcases hg' with rfl | rfl
            · exact h4 q hq
            · simp only [Option.some.injEq] at hq
              have := hx25.size
              omega
          have x6 := (((ext_wk (G := fun i => i ≠ w.heap.size + 1 + 1 + 1 + 1 ∧ i ≠ w.heap.size + 1 + 1 + 1 ∧ i ≠ w.heap.size + 1 + 1 + 1 + 2 ∧ i ≠ W0.heap.size ∧ i ≠ W0.heap.size + 1) hx25 (fun _ e => e.elim)).trans hx5 (fun i _ e => by have := h4 i e; omega)).trans x5 (fun i _ e => by omega))
          have x7 := ((h7.trans hx25 (fun _ _ e => e)).trans hx5 (fun i hi e => by have := h4 i e; omega)).trans x5 (fun i hi e => by omega)
          exact ⟨x6, ls ++ [o], _, g', by rw [List.map_append]; exact hsome, heap_setCell_same W5 _ 0 _ _ _ n3, hO'.keep x5 (fun q hq => by have := hg8 q hq; omega), hg8, x5.keep (hx5.keep (hx25.keep h5 nb) (fun e => by have := h4 _ e; omega)) (by omega), x5.keep (hx5.keep (hx25.keep h6 nb) (fun e => by have := h4 _ e; omega)) (by omega), x7⟩
      case done =>
        rintro W ys hys ⟨l, v, g, h1, h2, h3, h4, h5, h6, h7⟩ hk
        rw [hys] at h1
        rw [hsW] at hk
        have h3' := h3
        obtain ⟨A, c, b, o, rfl, hr, hg⟩ := h3'.read
        have hcl := hr.le
        have hcm := hr.max
        have m1 := cell_of_row W _ 0 _ _ (0, 0) h2
        have hDs : W0.heap.size ≠ w.heap.size := by omega
        gi_wp2
        refine ⟨trivial, callsIn_wide.2 ((text_calls A c b o l W (hG.keep h7) hr).mono ?_)⟩
        rintro e W2 ⟨rfl, hx2⟩
        have y1 := hx2.keep h5 nb
        have y2 := hx2.keep h6 nb
        have y3 := hx2.keep h2 nb
        have d1 := cell_of_row W2 _ 0 _ _ (0, 0) y1
        have d2 := cell_of_row W2 _ 0 _ _ (0, 0) y2
        have d3 := cell_of_row W2 _ 0 _ _ (0, 0) y3
        have z1 : W2.frozen? ⟨w.heap.size, 0, none⟩ = false := by simp only [World.frozen?, y1]; rfl
        have z2 : W2.frozen? ⟨w.heap.size + 1, 0, none⟩ = false := by simp only [World.frozen?, y2]; rfl
        have hk2 := hx2.keep hk nb
        by_cases hok : okB l = true ∧ textL l = s.data.toList
        · have hte : mk (textL l) = s := by rw [hok.2]; exact mk_data s
          have hR : Hid (R = (l, 0)) := by show _ = _; rw [hv.out, h1]; simp only []; rw [if_pos hok]
          rw [if_pos hok.1, if_pos hok.1, hte]
          have u1 : (s.toList == s.toList) = true := by simp
          gi_wp2
          refine ⟨trivial, callsIn_wide.2 ((clip_calls A l.length c hcl hcm W2).mono ?_)⟩
          rintro e W3 ⟨rfl, rfl⟩
          have hO2 := (SlO.clip h3).keep hx2 (fun _ _ => nb)
          gi_wp2
          have x4 := ext_cell W3 w.heap.size (.slice A l.length l.length)
          have f1 := heap_setCell_same W3 w.heap.size 0 _ _ (.slice A l.length l.length) y1
          have f2 := x4.keep y2 (by omega)
          have f3 := x4.keep hk2 (by omega)
          have f4 := hO2.keep x4 (fun q hq => by have := h4 q hq; omega)
          generalize W3.setCell ⟨w.heap.size, 0, none⟩ (.slice A l.length l.length) = W4 at *
          have x5 := ext_cell W4 (w.heap.size + 1) (.int .i64 0)
          have g1 := x5.keep f1 (by omega)
          have g2 := heap_setCell_same W4 (w.heap.size + 1) 0 _ _ (.int .i64 0) f2
          have g3 := x5.keep f3 (by omega)
          have g4 := f4.keep x5 (fun q hq => by have := h4 q hq; omega)
          generalize W4.setCell ⟨w.heap.size + 1, 0, none⟩ (.int .i64 0) = W5 at *
          have x6 := ext_put W5 (w.heap.size + 6) (.deferred none)
          have q0 := cell_of_row _ _ 0 _ _ (0, 0) (x6.keep g1 (by omega))
          have q1 := cell_of_row _ _ 0 _ _ (0, 0) (x6.keep g2 (by omega))
          refine ⟨by simp, .inl ⟨_, _, rfl, run_takeDeferred g3, ?_⟩⟩
          refine ⟨.tuple #[.slice A l.length l.length, .int .i64 0], ?_, .slice A l.length l.length, g, by rw [hR.out], ?_, (((h7.trans hx2 (fun _ _ e => e)).trans x4 (fun i hi e => by omega)).trans x5 (fun i hi e => by omega)).trans x6 (fun i hi e => by omega), fun q hq => by have := h4 q hq; omega⟩
          · simp [results, Tryd.f30, go_sem, asAddr, q0, q1]
          · rw [hR.out]; exact g4.keep x6 (fun q hq => by have := h4 q hq; omega)
        · have hR : Hid (R = ([], 3)) := by show _ = _; rw [hv.out, h1]; simp only []; rw [if_neg hok]
          by_cases hko : okB l = true
          · have hte : mk (textL l) ≠ s := fun e => hok ⟨hko, by rw [← e]; rfl⟩
            rw [if_pos hko, if_pos hko]
            have u1 := str_ne_toList hte
            generalize mk (textL l) = tt at *
            gi_wp2
            have x4 := ext_cell W2 w.heap.size (.slice none 0 0)
            have f1 := heap_setCell_same W2 w.heap.size 0 _ _ (.slice none 0 0) y1
            have f2 := x4.keep y2 (by omega)
            have f3 := x4.keep hk2 (by omega)
            generalize W2.setCell ⟨w.heap.size, 0, none⟩ (.slice none 0 0) = W4 at *
            have x5 := ext_cell W4 (w.heap.size + 1) (.int .i64 3)
            have g1 := x5.keep f1 (by omega)
            have g2 := heap_setCell_same W4 (w.heap.size + 1) 0 _ _ (.int .i64 3) f2
            have g3 := x5.keep f3 (by omega)
            generalize W4.setCell ⟨w.heap.size + 1, 0, none⟩ (.int .i64 3) = W5 at *
            have x6 := ext_put W5 (w.heap.size + 6) (.deferred none)
            have q0 := cell_of_row _ _ 0 _ _ (0, 0) (x6.keep g1 (by omega))
            have q1 := cell_of_row _ _ 0 _ _ (0, 0) (x6.keep g2 (by omega))
            refine ⟨by simp, .inl ⟨_, _, rfl, run_takeDeferred g3, ?_⟩⟩
            refine ⟨.tuple #[.slice none 0 0, .int .i64 3], ?_, .slice none 0 0, none, by rw [hR.out], ?_, (((h7.trans hx2 (fun _ _ e => e)).trans x4 (fun i hi e => by omega)).trans x5 (fun i hi e => by omega)).trans x6 (fun i hi e => by omega), by simp⟩
            · simp [results, Tryd.f30, go_sem, asAddr, q0, q1]
            · rw [hR.out]; exact SlO.nil _ _ _ _
          · rw [if_neg hko, if_neg hko]
            gi_wp2
            have x4 := ext_cell W2 w.heap.size (.slice none 0 0)
            have f1 := heap_setCell_same W2 w.heap.size 0 _ _ (.slice none 0 0) y1
            have f2 := x4.keep y2 (by omega)
            have f3 := x4.keep hk2 (by omega)
            generalize W2.setCell ⟨w.heap.size, 0, none⟩ (.slice none 0 0) = W4 at *
            have x5 := ext_cell W4 (w.heap.size + 1) (.int .i64 3)
            have g1 := x5.keep f1 (by omega)
            have g2 := heap_setCell_same W4 (w.heap.size + 1) 0 _ _ (.int .i64 3) f2
            have g3 := x5.keep f3 (by omega)
            generalize W4.setCell ⟨w.heap.size + 1, 0, none⟩ (.int .i64 3) = W5 at *
            have x6 := ext_put W5 (w.heap.size + 6) (.deferred none)
            have q0 := cell_of_row _ _ 0 _ _ (0, 0) (x6.keep g1 (by omega))
            have q1 := cell_of_row _ _ 0 _ _ (0, 0) (x6.keep g2 (by omega))
            refine ⟨by simp, .inl ⟨_, _, rfl, run_takeDeferred g3, ?_⟩⟩
            refine ⟨.tuple #[.slice none 0 0, .int .i64 3], ?_, .slice none 0 0, none, by rw [hR.out], ?_, (((h7.trans hx2 (fun _ _ e => e)).trans x4 (fun i hi e => by omega)).trans x5 (fun i hi e => by omega)).trans x6 (fun i hi e => by omega), by simp⟩
            · simp [results, Tryd.f30, go_sem, asAddr, q0, q1]
            · rw [hR.out]; exact SlO.nil _ _ _ _
      case stop =>
        rintro W ⟨h1, h5, h6, h7⟩ hk
        have hR : Hid (R = ([], 3)) := by show _ = _; rw [hv.out, h1]
        gi_wp2
        refine ⟨by simp, .inl ⟨_, _, rfl, run_takeDeferred hk, ?_⟩⟩
        have x4 := ext_put W W0.heap.size (.deferred none)
        have q0 := cell_of_row _ _ 0 _ _ (0, 0) (x4.keep h5 (by omega))
        have q1 := cell_of_row _ _ 0 _ _ (0, 0) (x4.keep h6 (by omega))
        refine ⟨.tuple #[.slice none 0 0, .int .i64 3], ?_, .slice none 0 0, none, by rw [hR.out], ?_, h7.trans x4 (fun i hi e => by omega), by simp⟩
        · simp [results, Tryd.f30, go_sem, asAddr, q0, q1]
        · rw [hR.out]; exact SlO.nil _ _ _ _
end Go.Proofs.YtgiimmiandhkhaaDoor
