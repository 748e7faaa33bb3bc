/- The bodies: Text. -/
import Derived.Test.YtgiimmiandhkhaaDoorProg
import Derived.Test.YtgiimmiandhkhaaDoorBoC
import Derived.Test.YtgiimmiandhkhaaDoorSl
namespace Go.Proofs.YtgiimmiandhkhaaDoor
open Go.RowKit
set_option linter.unusedSimpArgs false
set_option linter.unusedVariables false

def strE (s : ByteArray) : List Value := [.string s]
theorem strE_len (v : ByteArray) : (strE v).length = 1 := rfl
theorem strE_one (t : ByteArray) : ∀ u ∈ strE t, u.oneCell' = true := by
  intro u hu
  simp only [strE, List.mem_cons, List.not_mem_nil, or_false] at hu
  subst hu; rfl
theorem elem_str : ElemT Tryd.prog 38 9 1 16 := elemT_of (z := .string ⟨#[]⟩) Tryd.underlying38 (by kernel_rfl) rfl (by decide)

/-- A body's text, as bytes. -/
def textL (l : List BOp) : List UInt8 := if l = [] then [45] else Lib.join (l.map toldL) [59]
def toldS (o : BOp) : ByteArray := mk (toldL o)
theorem told_list (l : List BOp) : (l.map toldS).map (fun b => b.data.toList) = l.map toldL := by
  rw [List.map_map]
  refine List.map_congr_left (fun o _ => ?_)
  simp [toldS, mk]
theorem join_len (sep : List UInt8) (xs : List (List UInt8)) (n : Nat) (h : ∀ x ∈ xs, x.length ≤ n) (hs : sep.length ≤ 1) : (Lib.join xs sep).length ≤ xs.length * (n + 1) := by
  cases xs with
  | nil => simp [Lib.join]
  | cons x r =>
    rw [Lib.join_cons, List.length_append]
    have hx := h x (by simp)
    have hr : (Lib.joinTail sep r).length ≤ r.length * (n + 1) := by
      have hall : ∀ y ∈ r, y.length ≤ n := fun y hy => h y (by simp [hy])
      clear h hx
      induction r with
      | nil => simp [Lib.joinTail]
      | cons y r ih =>
        have h1 := ih (fun z hz => hall z (by simp [hz]))
        have h2 := hall y (by simp)
        simp only [Lib.joinTail, List.map_cons, List.flatten_cons, List.length_append, List.length_cons] at h1 ⊢
        rw [Nat.add_mul]
        omega
    rw [List.length_cons, Nat.add_mul]
    omega
theorem str_cells {w : World} {A : Option Addr} {c b o : Nat} {xs : List ByteArray} (h : SlR w 1 strE A c b o xs) (j : Nat) (x : ByteArray) (hj : xs[j]? = some x) : w.cell? ⟨b, o + j, none⟩ = some (.string x) := by
  have := h.cell strE_len j x hj 0 _ rfl
  simpa using this
theorem join_lets (l : List BOp) (h : okB l = true) : (Lib.join ((l.map toldS).map (fun b => b.data.toList)) (⟨#[59]⟩ : ByteArray).data.toList).length ≤ 140737488355328 := by
  rw [told_list]
  unfold okB at h
  rw [Bool.and_eq_true, decide_eq_true_iff] at h
  have := join_len [59] (l.map toldL) 50 (fun x hx => by
    obtain ⟨o, ho, rfl⟩ := List.mem_map.1 hx
    exact told_le o (List.all_eq_true.1 h.2 o ho)) (by simp)
  rw [List.length_map] at this
  show (Lib.join (l.map toldL) [59]).length ≤ _
  omega

set_option maxRecDepth 20000 in
set_option maxHeartbeats 4000000 in
theorem text_calls (A : Option Addr) (c b o : Nat) (xs : List BOp) (w : World) (hG : Gl w) (hx : SlR w 3 opB A c b o xs) :
    Calls Tryd.prog 35 #[.slice A xs.length c] w fun e w' => e = .returned (.tuple #[.string (if okB xs then mk (textL xs) else ⟨#[]⟩), .int .i64 (if okB xs then 0 else 1)]) ∧ Ext NoB w w' := by
  have hl := hx.le
  have hm := hx.max
  unfold maxLen at hm
  go_enter Tryd.func35, Tryd.ntmps35
  go_wp2_with fail
  refine (ok_calls A c b o xs w hx).mono ?_
  rintro e w1 ⟨rfl, hx1⟩
  by_cases hok : okB xs = true
  · have hok' := Lib.hid hok
    have h16 : xs.length ≤ 16 := by
      unfold okB at hok
      rw [Bool.and_eq_true, decide_eq_true_iff] at hok
      exact hok.1
    rw [hok]
    by_cases h0 : xs.length = 0
    · have hxs : xs = [] := List.eq_nil_of_length_eq_zero h0
      subst hxs
      clear hok
      go_wp2_with fail
      go_ret2
      exact ⟨by simp [textL, mk], hx1⟩
    · have t0 : (((xs.length : Nat) : Int) == 0) = false := by rw [beq_eq_false_iff_ne]; omega
      have t0' : ((xs.length : Nat) == 0) = false := by rw [beq_eq_false_iff_ne]; omega
      obtain rfl := hx.addr (by omega)
      clear hok
      go_wp2_with fail
      go_loopw [4, 15] (fun ov i wr => ∃ (k : Nat) (g : Option Nat), k ≤ xs.length ∧ i = .int .i64 k ∧ SlO wr 9 1 strE g ov ((xs.take k).map toldS) ∧ Ext NoB w1 wr ∧ (∀ q, g = some q → w1.heap.size ≤ q)) (fun _ i _ => xs.length - (intOf i).toNat)
      case atStart => exact ⟨0, none, Nat.zero_le _, rfl, SlO.nil _ _ _ _, Ext.refl _ _, by simp⟩
      case round =>
        obtain ⟨k, g, hk, rfl, hO, hext, hg⟩ := hrel
        by_cases hlt : k < xs.length
        · have t1 : decide (k < xs.length) = true := by simp [hlt]
          have hxe := (hx.keep hx1 nb1).keep hext nb1
          have e0 := hxe.cell opB_len k xs[k] (List.getElem?_eq_getElem hlt) 0 _ rfl
          have e1 := hxe.cell opB_len k xs[k] (List.getElem?_eq_getElem hlt) 1 _ rfl
          have e2 := hxe.cell opB_len k xs[k] (List.getElem?_eq_getElem hlt) 2 _ rfl
          rw [Nat.add_zero] at e0
          have hft : fitsB xs[k] = true := by
            have hok := hok'.out
            unfold okB at hok
            rw [Bool.and_eq_true] at hok
            exact List.all_eq_true.1 hok.2 _ (List.getElem_mem _)
          have hstep : (xs.take (k + 1)).map toldS = (xs.take k).map toldS ++ [toldS xs[k]] := by
            rw [List.take_succ_eq_append_getElem hlt, List.map_append]; rfl
          have hlen : ((xs.take k).map toldS).length = k := by rw [List.length_map, List.length_take]; omega
          have hb1 : (((xs.take k).map toldS).length + 1) * 16 ≤ 140737488355328 := by
            have hok := hok'.out
            unfold okB at hok
            rw [Bool.and_eq_true, decide_eq_true_iff] at hok
            rw [hlen]
            omega
          have hb2 : ((xs.take k).map toldS).length + 1 ≤ maxLen := by rw [hlen]; unfold maxLen; omega
          have hstep := Lib.hid hstep
          clear hlen
          generalize xs[k] = xk at *
          have hft' := Lib.hid hft
          clear hft
          have hb0 := alloc_at wr (.cells #[.int .i64 xk.k, .int .i64 xk.a, .int .i64 xk.b] 81)
          have hx0 : Ext NoB wr (wr.alloc (.cells #[.int .i64 xk.k, .int .i64 xk.a, .int .i64 xk.b] 81)) := (Ext.refl NoB wr).alloc _
          have f0 : (wr.alloc (.cells #[.int .i64 xk.k, .int .i64 xk.a, .int .i64 xk.b] 81)).cell? ⟨wr.heap.size, 0, none⟩ = some (.int .i64 xk.k) := by rw [cell_of_row _ wr.heap.size 0 _ _ (0, 0) hb0]; rfl
          have f1 : (wr.alloc (.cells #[.int .i64 xk.k, .int .i64 xk.a, .int .i64 xk.b] 81)).cell? ⟨wr.heap.size, 1, none⟩ = some (.int .i64 xk.a) := by rw [cell_of_row _ wr.heap.size 1 _ _ (0, 0) hb0]; rfl
          have f2 : (wr.alloc (.cells #[.int .i64 xk.k, .int .i64 xk.a, .int .i64 xk.b] 81)).cell? ⟨wr.heap.size, 2, none⟩ = some (.int .i64 xk.b) := by rw [cell_of_row _ wr.heap.size 2 _ _ (0, 0) hb0]; rfl
          go_wp2_with fail
          refine (told_calls xk _ ((hG.keep hx1).keep (hext.trans hx0 (fun _ _ e => e))) hft'.out).mono ?_
          rintro e w3 ⟨rfl, hx3⟩
          have hO3 := (hO.keep hx0 (fun _ _ => nb)).keep hx3 (fun _ _ => nb)
          have hext3 := (hext.trans hx0 (fun _ _ e => e)).trans hx3 (fun _ _ e => e)
          go_wp2_with (at_builtin; go_loud (refine wpList_appendO (ys := [toldS xk]) rfl rfl elem_str strE_len strE_one (hO3.keep ((Ext.refl NoB _).alloc _) (fun _ _ => nb)) rfl (SlR.one' (alloc_at' _ _ _ (by simp)) rfl) rfl rfl hb1 hb2 (fun v' w5 g' hO' hx5 hg' => ?_)))
          go_roundw
          case rel =>
            refine ⟨k + 1, g', by omega, by go_num, by rw [hstep.out]; exact hO', (hext3.alloc _).trans hx5 (fun i hi e => absurd (hg i e) (by omega)), fun q hq => ?_⟩
            rcases hg' with rfl | rfl
            · exact hg q hq
            · simp only [Option.some.injEq] at hq
              have := hext3.size
              simp at hq
              omega
          case measure => simp [intOf]; omega
        · have t1 : decide (k < xs.length) = false := by simp [hlt]
          obtain rfl : k = xs.length := by omega
          rw [List.take_length] at hO
          obtain ⟨A3, c3, b3, o3, rfl, hr3, hg3⟩ := hO.read
          rw [List.length_map] at *
          obtain rfl := hr3.addr (by rw [List.length_map]; omega)
          have hlt3 : b3 < wr.heap.size := by
            have := hr3.cell strE_len 0 _ (List.getElem?_eq_getElem (by rw [List.length_map]; omega)) 0 _ rfl
            exact World.block_lt_of_cell? wr _ this
          have hj := Tryd.strings_Join b3 o3 c3 (xs.map toldS) ⟨#[59]⟩ wr (fun j x hj => str_cells hr3 j x hj) hlt3 (by rw [List.length_map]; omega) hr3.le (join_lets xs hok'.out)
          rw [List.length_map, told_list] at hj
          have hj := Lib.hid hj
          clear hO
          go_wp2_with fail
          refine hj.out.mono ?_
          rintro e w4 ⟨rfl, hx4⟩
          have hfin : Hid (mk (textL xs) = ⟨(Lib.join (xs.map toldL) (⟨#[59]⟩ : ByteArray).data.toList).toArray⟩) := by
            show _ = _
            have hne : xs ≠ [] := fun e => h0 (by rw [e]; rfl)
            unfold textL
            rw [if_neg hne]; rfl
          generalize (⟨(Lib.join (xs.map toldL) (⟨#[59]⟩ : ByteArray).data.toList).toArray⟩ : ByteArray) = jt at *
          go_wp2_with fail
          go_ret2
          exact ⟨by rw [hfin.out]; rfl, (hx1.trans hext (fun _ _ e => e)).trans (Ext.of_below hx4) (fun _ _ e => e)⟩
  · have hok' : okB xs = false := by simpa using hok
    rw [hok']
    go_wp2_with fail
    go_ret2
    exact ⟨by simp, hx1⟩
end Go.Proofs.YtgiimmiandhkhaaDoor
