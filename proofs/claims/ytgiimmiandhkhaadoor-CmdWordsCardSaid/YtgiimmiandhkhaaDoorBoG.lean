/- The bodies: strings.SplitSeq's iterator. -/
import Derived.Test.YtgiimmiandhkhaaDoorProg
import Derived.Test.YtgiimmiandhkhaaDoorBoE
import Derived.RangeFuncKeeps
import Derived.RangeFuncLeaves
import Derived.Shelf.Abstract
import Derived.WalkKit
import Derived.OwnWalkIn
import Derived.TacticsInMore
import Derived.LoopNIn
import Derived.LoopIn
namespace Go.Proofs.YtgiimmiandhkhaaDoor
open Go.RowKit
set_option linter.unusedSimpArgs false
set_option linter.unusedVariables false
attribute [local go_sem] Oper.semAt_some

theorem spl_none (c : UInt8) : ∀ l : List UInt8, Lib.indexByte l c = -1 → spl c l = [l]
  | [], _ => rfl
  | b :: l, h => by
    unfold Lib.indexByte at h
    by_cases hb : b = c
    · subst hb; simp at h
    · have h1 : (b == c) = false := by simp [hb]
      rw [h1] at h
      simp only [Bool.false_eq_true, if_false] at h
      have hge := Lib.indexByte_ge l c
      have hm : Lib.indexByte l c = -1 := by
        split at h
        · rename_i hh; exact beq_iff_eq.1 hh
        · omega
      rw [spl, if_neg hb, spl_none c l hm]; rfl
theorem spl_index (c : UInt8) : ∀ (l : List UInt8) (j : Nat), Lib.indexByte l c = j → j < l.length ∧ spl c l = l.take j :: spl c (l.drop (j + 1))
  | [], j, h => by unfold Lib.indexByte at h; omega
  | b :: l, j, h => by
    unfold Lib.indexByte at h
    by_cases hb : b = c
    · subst hb
      simp at h
      obtain rfl : j = 0 := by omega
      exact ⟨by simp, by rw [spl, if_pos rfl]; simp⟩
    · have h1 : (b == c) = false := by simp [hb]
      rw [h1] at h
      simp only [Bool.false_eq_true, if_false] at h
      have hge := Lib.indexByte_ge l c
      split at h
      · omega
      · obtain ⟨i, rfl⟩ : ∃ i, j = i + 1 := ⟨j - 1, by rename_i hh; have : Lib.indexByte l c ≠ -1 := fun e => hh (beq_iff_eq.2 e); omega⟩
        obtain ⟨h2, h3⟩ := spl_index c l i (by omega)
        exact ⟨by simp; omega, by rw [spl, if_neg hb, h3]; rfl⟩

def restLen (b : Nat) (w : World) : Nat := match w.cell? ⟨b, 0, none⟩ with | some (.string r) => r.size | _ => 0
theorem restLen_eq {b : Nat} {w : World} {r : ByteArray} (h : w.cell? ⟨b, 0, none⟩ = some (.string r)) : restLen b w = r.size := by unfold restLen; rw [h]

set_option maxRecDepth 100000 in
set_option maxHeartbeats 2000000 in
theorem split_iter (n : Nat) (l b1 b2 b3 : Nat) (h12 : b1 ≠ b2) (h32 : b3 ≠ b2) (L : List (List UInt8)) (J Jx : List ByteArray → World → Prop)
    (hJ : ∀ pre W W', J pre W → Ext (· = b2) W W' → J pre W')
    (hY : ∀ pre x tl W, J pre W → pre.map (fun y => y.data.toList) ++ x.data.toList :: tl = L → YieldAt Fence.wide (n - 1) Tryd.prog l #[.string x] W fun e W' =>
      (e = .returned (.bool true) ∧ J (pre ++ [x]) W' ∧ Ext (fun i => i ≠ b1 ∧ i ≠ b2 ∧ i ≠ b3) W W') ∨ (e = .returned (.bool false) ∧ Jx (pre ++ [x]) W'))
    (s : ByteArray) (hs : s.size ≤ 1000000) (hL : spl 59 s.data.toList = L) (W : World) (hc1 : W.cell? ⟨b1, 0, none⟩ = some (.string ⟨#[59]⟩)) (hc2 : W.cell? ⟨b2, 0, none⟩ = some (.string s)) (hf2 : W.frozen? ⟨b2, 0, none⟩ = false) (hc3 : W.cell? ⟨b3, 0, none⟩ = some (.int .i64 0)) (h0 : J [] W) :
    CallsIn Fence.wide n Tryd.prog 78 #[.func (.yield l) #[] #[], .pointer (some ⟨b1, 0, none⟩), .pointer (some ⟨b2, 0, none⟩), .pointer (some ⟨b3, 0, none⟩)] W fun e W' => (∃ v, e = .returned v) ∧
      ((∃ ys, ys.map (fun y => y.data.toList) = L ∧ J ys W') ∨ (∃ pre, Jx pre W')) := by
  refine callsIn_of_wp Tryd.func78 rfl trivial ?_ rfl
  simp only [Tryd.ntmps78, List.size_toArray, List.length_cons, List.length_nil, Nat.reduceAdd, Nat.reduceSub, Array.replicate_succ, Array.replicate_zero, List.push_toArray, List.append_toArray, List.nil_append, List.cons_append]
  gi_wp2
  gi_loopw [] (fun wr => ∃ (pre : List ByteArray) (r : ByteArray), wr.cell? ⟨b1, 0, none⟩ = some (.string ⟨#[59]⟩) ∧ wr.cell? ⟨b2, 0, none⟩ = some (.string r) ∧ wr.frozen? ⟨b2, 0, none⟩ = false ∧ wr.cell? ⟨b3, 0, none⟩ = some (.int .i64 0) ∧ r.size ≤ 1000000 ∧ pre.map (fun y => y.data.toList) ++ spl 59 r.data.toList = L ∧ J pre wr)
    (fun wr => restLen b2 wr)
  case atStart => exact ⟨[], s, hc1, hc2, hf2, hc3, hs, hL, h0⟩
  case round =>
    obtain ⟨pre, r, c1, c2, f2, c3, hr, hpre, hJr⟩ := hrel
    have hge := Lib.indexByte_ge r.data.toList 59
    by_cases hm : Lib.indexByte r.data.toList 59 = -1
    · have hsp := spl_none 59 _ hm
      rw [hsp] at hpre
      have t0 : decide ((-1 : Int) < 0) = true := by decide
      gi_wp2
      refine ⟨trivial, (fun h => by cases h), callsIn_wide.2 ((Tryd.strings_Index_one r 59 wr).mono ?_)⟩
      rintro e w' ⟨rfl, rfl⟩
      rw [hm]
      obtain ⟨fn, tmps, assign, body, hy, hR⟩ := hY pre r [] _ hJr hpre
      gi_wp2
      refine ⟨(fun h => by cases h), hR.mono ?_⟩
      rintro e W3 (⟨rfl, hJ3, hk3⟩ | ⟨rfl, hJx3⟩)
      · gi_wp2
        refine bodyPost_end (results_none rfl _ _ _) rfl ?_
        exact ⟨⟨_, rfl⟩, .inl ⟨pre ++ [r], by rw [List.map_append]; exact hpre, hJ3⟩⟩
      · gi_wp2
        refine bodyPost_end (results_none rfl _ _ _) rfl ?_
        exact ⟨⟨_, rfl⟩, .inr ⟨_, hJx3⟩⟩
    · obtain ⟨j, hj⟩ : ∃ j : Nat, Lib.indexByte r.data.toList 59 = j := ⟨(Lib.indexByte r.data.toList 59).toNat, by omega⟩
      obtain ⟨hjl, hsp⟩ := spl_index 59 _ j hj
      rw [hsp] at hpre
      have hrs : r.data.toList.length = r.size := by rw [Array.length_toList]; rfl
      have hjr : j < r.size := by omega
      have t0 : decide ((j : Int) < 0) = false := by simp
      have hex : (r.extract 0 j).data.toList = r.data.toList.take j := Lib.extract_from_zero r j
      have hex2 : (r.extract (j + 1) r.size).data.toList = r.data.toList.drop (j + 1) := Lib.extract_to_end r (j + 1)
      have hes : (r.extract (j + 1) r.size).size = r.size - (j + 1) := by rw [ByteArray.size_extract]; omega
      gi_wp2
      refine ⟨trivial, (fun h => by cases h), callsIn_wide.2 ((Tryd.strings_Index_one r 59 wr).mono ?_)⟩
      rintro e w' ⟨rfl, rfl⟩
      rw [hj]
      obtain ⟨fn, tmps, assign, body, hy, hR⟩ := hY pre (r.extract 0 j) _ _ hJr (by rw [hex]; exact hpre)
      gi_wp2
      refine ⟨(fun h => by cases h), hR.mono ?_⟩
      rintro e W3 (⟨rfl, hJ3, hk3⟩ | ⟨rfl, hJx3⟩)
      · have d1 := hk3.cell c1 (fun e => e.1 rfl)
        have d2 := hk3.cell c2 (fun e => e.2.1 rfl)
        have d3 := hk3.cell c3 (fun e => e.2.2 rfl)
        have g2 : W3.frozen? ⟨b2, 0, none⟩ = false := (World.frozen?_of_block (w := w') (hk3.block b2 (World.block_lt_of_cell? w' _ c2) (fun e => e.2.1 rfl))).trans f2
        gi_wp2
        have hx4 : Ext (· = b2) W3 (W3.setCell ⟨b2, 0, none⟩ (.string (r.extract (j + 1) r.size))) := (Ext.refl (· = b2) W3).setCell (fun _ => rfl) _
        have d2' : (W3.setCell ⟨b2, 0, none⟩ (.string (r.extract (j + 1) r.size))).cell? ⟨b2, 0, none⟩ = some (.string (r.extract (j + 1) r.size)) := World.cell?_setCell_same' _ _ _ (by rw [d2]; rfl)
        refine ⟨⟨pre ++ [r.extract 0 j], r.extract (j + 1) r.size, hx4.cell d1 h12, d2', by rw [World.frozen?_setCell]; exact g2, hx4.cell d3 h32, by omega, ?_, hJ _ _ _ hJ3 hx4⟩, ?_⟩
        · rw [List.map_append, List.append_assoc, hex2]
          show _ ++ ((r.extract 0 j).data.toList :: _) = L
          rw [hex]; exact hpre
        · rw [restLen_eq d2', restLen_eq c2, hes]; omega
      · gi_wp2
        refine bodyPost_ret (results_none rfl _ _ _) rfl ?_
        exact ⟨⟨_, rfl⟩, .inr ⟨_, hJx3⟩⟩
end Go.Proofs.YtgiimmiandhkhaaDoor
